/- Part 14: VEval, part 35: functions that are known by a contract; closed calls that give constants. No condition. And what follows it. -/
import Derived.Test.YteeibihhdldjfaaGreatDoorVeM
import Derived.Lib.Join
import Derived.Lib.ItoaNum
import Derived.Lib.Atoi
set_option linter.unusedVariables false
set_option linter.unusedSimpArgs false
namespace Go.Ve
open Go.RowKit
theorem HR.behind {P : Program} {w0 w w' : World} {φ : ak} {h : AH} (H : HR P w0 φ h w) (hb : Below w.heap.size w w') : HR P w0 φ h w' := by
 refine ⟨H.inj, H.fresh, H.top, H.dead, fun f b d n hf => ?_, ?_⟩
 · obtain ⟨o, o', a1, a2, a3⟩ := H.obj f b d n hf
   exact ⟨o, o', a1, by rw [hb.block b (Array.getElem?_eq_some_iff.1 a2).1]; exact a2, a3⟩
 · have h1 := H.below
   exact ⟨hb.os.trans h1.os, hb.tape.trans h1.tape, hb.output.trans h1.output, Nat.le_trans h1.size (Nat.le_trans (by simp) hb.size), fun k hk => by rw [hb.block k (Nat.lt_of_lt_of_le hk h1.size)]; exact h1.block k hk⟩
theorem zI {P : Program} {w0 : World} {f : FuncId} {S : List Value → AH → (CR → AH → Bool) → Bool} (fH : Can P f)
 (hS : ∀ args h k φ args' w, S args h k = true → LR φ args args'.toList → HR P w0 φ h w → ∃ v c, VR φ v c ∧ k (.ret v) h = true ∧ Calls P f args' w fun E w' => E = .returned c ∧ Below w.heap.size w w') :
 ∀ (args : List Value) (h : AH) (k : CR → AH → Bool), S args h k = true → fG P w0 f args h k := by
 intro args h k e
 refine ⟨fH, fun φ args' w hl H => ?_⟩
 obtain ⟨v, c, h1, h2, h3⟩ := hS args h k φ args' w e hl H
 refine Calls.mono h3 fun E w' hE => ?_
 exact ⟨.ret v, h, φ, h2, Ext.refl _ _, Nat.le_refl _, H.behind hE.2, c, hE.1, h1⟩
def wI : Value → Value → Bool
 | .bool a, .bool b => bif a then b else !b
 | .int k a, .int l b => eP k l && ke a b
 | .string a, .string b => mc a.data.toList b.data.toList
 | .nilIface, .nilIface => true
 | _, _ => false
def DZ : List Value → List Value → Bool
 | [], [] => true
 | a :: l, b :: m => wI a b && DZ l m
 | _, _ => false
def D3 : Value → Value → Bool
 | .agg ⟨l⟩, .agg ⟨m⟩ => DZ l m
 | a, b => wI a b
def zJ : List Value → List Value → Bool
 | [], [] => true
 | a :: l, b :: m => D3 a b && zJ l m
 | _, _ => false
def ux : Value → Value → Bool
 | .agg ⟨l⟩, .agg ⟨m⟩ => zJ l m
 | .tuple ⟨l⟩, .tuple ⟨m⟩ => zJ l m
 | a, b => wI a b
def Plain (a b : Value) : Prop := ∀ φ, VR φ a b ∧ ∀ v, VR φ a v → v = b
def qB (l m : List Value) : Prop := ∀ φ, LR φ l m ∧ ∀ l', LR φ l l' → l' = m
theorem qB.nil : qB [] [] := fun φ => ⟨.nil, fun l' h => by cases h; rfl⟩
theorem qB.cons {a b : Value} {l m : List Value} (h : Plain a b) (hl : qB l m) : qB (a :: l) (b :: m) := fun φ =>
 ⟨.cons _ _ _ _ (h φ).1 (hl φ).1, fun l' h' => by
  cases h' with | cons _ v _ l2 h1 h2 => rw [(h φ).2 v h1, (hl φ).2 l2 h2]⟩
theorem Tt : ∀ {a b : List UInt8}, mc a b = true → a = b
 | [], [], _ => rfl
 | x :: l, y :: m, h => by
  have h' : (bif Nat.beq x.toNat y.toNat then mc l m else false) = true := h
  cases hx : Nat.beq x.toNat y.toNat with
  | false => rw [hx] at h'; cases h'
  | true =>
   rw [hx, cond_true] at h'
   rw [Tt h', UInt8.toNat_inj.1 (Nat.eq_of_beq_eq_true hx)]
 | [], _ :: _, h => by cases h
 | _ :: _, [], h => by cases h
theorem Kv {a b : Value} (h : wI a b = true) : Plain a b := by
 unfold wI at h
 split at h
 · rename_i a b
   have : a = b := by cases a <;> cases b <;> simp_all
   subst this
   exact fun φ => ⟨.bool _, fun v hv => hv.oM⟩
 · rename_i k a l b
   rw [Bool.and_eq_true] at h
   obtain rfl := lZ h.1
   obtain rfl : a = b := by have := h.2; rw [pZ] at this; simpa using this
   exact fun φ => ⟨.int _ _, fun v hv => hv.fo⟩
 · rename_i a b
   have h1 := Tt h
   have : a = b := by
    apply ByteArray.ext
    exact Array.toList_inj.1 h1
   subst this
   exact fun φ => ⟨.str _, fun v hv => hv.iD⟩
 · exact fun φ => ⟨.vP, fun v hv => by cases hv; rfl⟩
 · cases h
theorem Tu : ∀ {l m : List Value}, DZ l m = true → qB l m
 | [], [], _ => .nil
 | a :: l, b :: m, h => by
  have h' : (wI a b && DZ l m) = true := h
  rw [Bool.and_eq_true] at h'
  exact .cons (Kv h'.1) (Tu h'.2)
 | [], _ :: _, h => by cases h
 | _ :: _, [], h => by cases h
theorem Plain.agg {l m : List Value} (h : qB l m) : Plain (.agg ⟨l⟩) (.agg ⟨m⟩) := fun φ => ⟨.agg _ _ (h φ).1, fun v hv => by
 obtain ⟨a', rfl, h'⟩ := hv.uy
 have := (h φ).2 _ h'
 cases a'; simp_all⟩
theorem Plain.eW {l m : List Value} (h : qB l m) : Plain (.tuple ⟨l⟩) (.tuple ⟨m⟩) := fun φ => ⟨.eW _ _ (h φ).1, fun v hv => by
 obtain ⟨a', rfl, h'⟩ := hv.Tv
 have := (h φ).2 _ h'
 cases a'; simp_all⟩
theorem acH {a b : Value} (h : D3 a b = true) : Plain a b := by
 unfold D3 at h
 split at h
 · exact .agg (Tu h)
 · exact Kv h
theorem Kw : ∀ {l m : List Value}, zJ l m = true → qB l m
 | [], [], _ => .nil
 | a :: l, b :: m, h => by
  have h' : (D3 a b && zJ l m) = true := h
  rw [Bool.and_eq_true] at h'
  exact .cons (acH h'.1) (Kw h'.2)
 | [], _ :: _, h => by cases h
 | _ :: _, [], h => by cases h
theorem zK {a b : Value} (h : ux a b = true) : Plain a b := by
 unfold ux at h
 split at h
 · exact .agg (Kw h)
 · exact .eW (Kw h)
 · exact Kv h
def Kx (c : Value) (r : CR) (_ : AH) : Bool := CR.casesOn (motive := fun _ => Bool) r (fun v => ux v c) (fun _ => false)
theorem acI {P : Program} (bt : P.follows .mixedOrders = true) {prog : NT fU} (nR : ∀ f af, prog.get f = some af → bN P f = some af) {sums : qk} {w : World} (Kb : Dl P w sums) {n : Nat} {f : FuncId} {args : List Value} {args' : Array Value} {c : Value}
 (h : ev prog sums n (.call f args ⟨0, .e⟩ (Kx c)) = true) (hl : LR (fun _ => none) args args'.toList) : Can P f ∧ Calls P f args' w fun E w' => E = .returned c ∧ Below w.heap.size w w' := by
 have hC : fG P w f args ⟨0, .e⟩ (Kx c) := Sx bt nR Kb n _ h
 refine ⟨hC.1, Calls.mono (hC.2 (fun _ => none) args' w hl (HR.bare P w)) fun E w' hR => ?_⟩
 obtain ⟨r, h', φ', h1, h2, h3, h4, h5⟩ := hR
 cases r with
 | az v => cases h1
 | ret v =>
  obtain ⟨v', rfl, hv⟩ := h5
  exact ⟨by rw [(zK h1 φ').2 v' hv], h4.below⟩
end Go.Ve
namespace Go.Ve
open Go.RowKit
noncomputable section
def zL (f : Nat) (n : Nat) (acc : List UInt8) (k : List UInt8 → Bool) : Bool := match f with
 | 0 => false
 | f + 1 => bif Nat.ble 10 n then fN (Nat.div n 10) fun q => zL f q (UInt8.ofNat (Nat.add 48 (Nat.mod n 10)) :: acc) k else k (UInt8.ofNat (Nat.add 48 n) :: acc)
def Tw (vs : List Value) (h : AH) (k : CR → AH → Bool) : Bool := a1 vs fun v => jw v fun kd n => iff (eP kd .i64) (match n with
 | .ofNat a => iff (Nat.ble a 9223372036854775807) (zL 25 a [] fun l => k (.ret (.string ⟨⟨l⟩⟩)) h)
 | .negSucc a => iff (Nat.ble a 9223372036854775807) (fN (Nat.succ a) fun a => zL 25 a [] fun l => k (.ret (.string ⟨⟨45 :: l⟩⟩)) h))
def Tx (vs : List Value) (h : AH) (k : CR → AH → Bool) : Bool := a1 vs fun v => gT v fun s => iff (Nat.ble s.data.toList.length 18) (match Go.Lib.atoi s.data.toList with
 | some n => fI n fun n => k (.ret (.tuple ⟨[.int .i64 n, .nilIface]⟩)) h
 | none => false)
def D4 (sep : List UInt8) : List Value → (List UInt8 → Bool) → Bool
 | [], k => k []
 | [v], k => gT v fun s => k s.data.toList
 | v :: l, k => gT v fun s => D4 sep l fun m => qs sep m fun m => qs s.data.toList m k
def Ty (vs : List Value) (h : AH) (k : CR → AH → Bool) : Bool := a2 vs fun v s => gT s fun sep => jx v false fun b o n c => iff (Nat.ble 1 n && Nat.ble n 65536) (j9 h b o n fun l => D4 sep.data.toList l fun m => iff (Nat.ble m.length 1048576) (k (.ret (.string ⟨⟨m⟩⟩)) h))
theorem Ky : ∀ (f n : Nat) {acc : List UInt8} {k : List UInt8 → Bool}, zL f n acc k = true → k (Lib.decDigits n ++ acc) = true
 | 0, n, acc, k, h => by cases h
 | f + 1, n, acc, k, h => by
  have h1 : (bif Nat.ble 10 n then fN (Nat.div n 10) fun q => zL f q (UInt8.ofNat (Nat.add 48 (Nat.mod n 10)) :: acc) k else k (UInt8.ofNat (Nat.add 48 n) :: acc)) = true := h
  by_cases hn : 10 ≤ n
  · rw [show Nat.ble 10 n = true from Nat.ble_eq_true_of_le hn, cond_true, bH] at h1
    have h2 : k (Lib.decDigits (n / 10) ++ (UInt8.ofNat (48 + n % 10) :: acc)) = true := Ky f _ h1
    rw [Lib.decDigits, dif_neg (by omega)]
    simpa using h2
  · rw [show Nat.ble 10 n = false by rw [rv]; simpa using hn, cond_false] at h1
    rw [Lib.decDigits, dif_pos (by omega)]
    exact h1
theorem acJ {P : Program} {w0 : World} {f : FuncId} (fH : Can P f)
 (hI : ∀ (n : Int) (w : World), -9223372036854775808 ≤ n → n ≤ 9223372036854775807 → Below w0.heap.size w0 w → Calls P f #[.int .i64 n] w fun e w' => e = .returned (.string ⟨(Lib.itoa n).toArray⟩) ∧ Below w.heap.size w w') :
 ∀ (args : List Value) (h : AH) (k : CR → AH → Bool), Tw args h k = true → fG P w0 f args h k := by
 refine zI fH fun args h k φ args' w e hl H => ?_
 obtain ⟨L, hL⟩ : ∃ L, args'.toList = L := ⟨_, rfl⟩
 rw [hL] at hl
 obtain ⟨v, rfl, e1⟩ := dO e
 obtain ⟨kd, n, rfl, e2⟩ := lk e1
 obtain ⟨e3, e4⟩ := bJ e2
 obtain rfl := lZ e3
 have iW : args' = #[.int .i64 n] := by
  cases hl with | cons _ v' _ l' h1 h2 => cases h2; apply Array.ext'; rw [hL, h1.fo]
 subst iW
 refine ⟨.string ⟨(Lib.itoa n).toArray⟩, _, .str _, ?_, hI n w ?_ ?_ H.below⟩
 · cases n with
   | ofNat a =>
    obtain ⟨e5, e6⟩ := bJ e4
    have := Ky _ _ e6
    rw [List.append_nil] at this
    rw [show Lib.itoa (Int.ofNat a) = Lib.decDigits a by unfold Lib.itoa; rw [if_neg (by have := Int.natCast_nonneg a; exact Int.not_lt.2 this)]; rfl]
    exact this
   | negSucc a =>
    obtain ⟨e5, e6⟩ := bJ e4
    rw [bH] at e6
    have := Ky _ _ e6
    rw [List.append_nil] at this
    rw [show Lib.itoa (Int.negSucc a) = 45 :: Lib.decDigits (a + 1) by unfold Lib.itoa; rw [if_pos (by omega)]; rfl]
    exact this
 · cases n with
   | ofNat a => have := Int.natCast_nonneg a; show -9223372036854775808 ≤ (a : Int); omega
   | negSucc a => have := Nat.le_of_ble_eq_true (bJ e4).1; omega
 · cases n with
   | ofNat a => have := Nat.le_of_ble_eq_true (bJ e4).1; show (a : Int) ≤ 9223372036854775807; omega
   | negSucc a => omega
theorem acK {P : Program} {w0 : World} {f : FuncId} (fH : Can P f)
 (hI : ∀ (s : ByteArray) (n : Int) (w : World), s.size ≤ 18 → Lib.atoi s.data.toList = some n → Calls P f #[.string s] w fun e w' => e = .returned (.tuple #[.int .i64 n, .nilIface]) ∧ Below w.heap.size w w') :
 ∀ (args : List Value) (h : AH) (k : CR → AH → Bool), Tx args h k = true → fG P w0 f args h k := by
 refine zI fH fun args h k φ args' w e hl H => ?_
 obtain ⟨L, hL⟩ : ∃ L, args'.toList = L := ⟨_, rfl⟩
 rw [hL] at hl
 obtain ⟨v, rfl, e1⟩ := dO e
 obtain ⟨s, rfl, e2⟩ := jJ e1
 obtain ⟨e3, e4⟩ := bJ e2
 have iW : args' = #[.string s] := by
  cases hl with | cons _ v' _ l' h1 h2 => cases h2; apply Array.ext'; rw [hL, h1.iD]
 subst iW
 split at e4
 · rename_i n hn
   rw [ma] at e4
   exact ⟨_, _, .eW ⟨[.int .i64 n, .nilIface]⟩ #[.int .i64 n, .nilIface] (.cons _ _ _ _ (.int _ _) (.cons _ _ _ _ .vP .nil)), e4, hI s n w (by have := Nat.le_of_ble_eq_true e3; simpa using this) hn⟩
 · cases e4
theorem Kz : ∀ (l m : List UInt8) {k : List UInt8 → Bool}, qs l m k = true → k (l ++ m) = true
 | [], m, k, h => h
 | x :: l, m, k, h => Kz l m (show qs l m (fun l' => k (x :: l')) = true from h)
theorem Tz (sep : List UInt8) : ∀ (l : List Value) {k : List UInt8 → Bool}, D4 sep l k = true → ∃ xs : List ByteArray, l = xs.map .string ∧ k (Lib.join (xs.map (·.data.toList)) sep) = true
 | [], k, h => ⟨[], rfl, h⟩
 | [v], k, h => by
  obtain ⟨s, rfl, e⟩ := jJ (show gT v _ = true from h)
  exact ⟨[s], rfl, by rw [List.map_cons, List.map_nil, Lib.join_one]; exact e⟩
 | v :: y :: l, k, h => by
  obtain ⟨s, rfl, e⟩ := jJ (show gT v (fun s => D4 sep (y :: l) fun m => qs sep m fun m => qs s.data.toList m k) = true from h)
  obtain ⟨xs, h1, h2⟩ := Tz sep (y :: l) e
  have h3 := Kz _ _ (Kz _ _ h2)
  refine ⟨s :: xs, by rw [h1]; rfl, ?_⟩
  rw [List.map_cons]
  cases xs with
  | nil => cases h1
  | cons x r =>
   rw [List.map_cons, Lib.join_cons] at h3
   rw [List.map_cons, Lib.join_cons]
   simpa [Lib.joinTail] using h3
theorem acL {P : Program} {w0 : World} {f : FuncId} (fH : Can P f)
 (hJ : ∀ (bk o c : Nat) (xs : List ByteArray) (sep : ByteArray) (w : World), (∀ (j : Nat) x, xs[j]? = some x → w.cell? ⟨bk, o + j, none⟩ = some (.string x)) → bk < w.heap.size → xs.length ≤ 140737488355328 → xs.length ≤ c → (Lib.join (xs.map (·.data.toList)) sep.data.toList).length ≤ 140737488355328 →
  Calls P f #[.slice (some ⟨bk, o, none⟩) xs.length c, .string sep] w fun e w' => e = .returned (.string ⟨(Lib.join (xs.map (·.data.toList)) sep.data.toList).toArray⟩) ∧ Below w.heap.size w w') :
 ∀ (args : List Value) (h : AH) (k : CR → AH → Bool), Ty args h k = true → fG P w0 f args h k := by
 refine zI fH fun args h k φ args' w e hl H => ?_
 obtain ⟨L, hL⟩ : ∃ L, args'.toList = L := ⟨_, rfl⟩
 rw [hL] at hl
 obtain ⟨v, s, rfl, e1⟩ := fF e
 obtain ⟨sep, rfl, e2⟩ := jJ e1
 rcases nK e2 with ⟨l0, c0, _, e3⟩ | ⟨a, len, cap, rfl, e3⟩
 · cases e3
 obtain ⟨e4, e5⟩ := bJ e3
 simp only [Bool.and_eq_true] at e4
 have QI := Nat.le_of_ble_eq_true e4.1
 have wb := Nat.le_of_ble_eq_true e4.2
 obtain ⟨lo, hi, ty, ll, cc, l, g1, g2, g3, g4, g5, g6⟩ := ry e5
 obtain ⟨xs, rfl, e6⟩ := Tz _ _ g6
 obtain ⟨e7, e8⟩ := bJ e6
 have e7 := Nat.le_of_ble_eq_true e7
 cases hl with
 | cons _ v1 _ l1 h1 h2 =>
  cases h2 with
  | cons _ v2 _ l2 h3 h4 =>
   cases h4
   obtain ⟨a', c', rfl, hs, gh⟩ := h1.mB
   obtain rfl := h3.iD
   have cb : AtR φ a a' ∧ len ≤ c' := by
    rcases gh with ⟨_, h2, h3, h4⟩ | ⟨_, _, _, h3, h4⟩
    · exact ⟨h4 (by omega), by omega⟩
    · exact ⟨(h4 (by omega)).1, h3⟩
   rw [List.length_map] at g4
   obtain ⟨b, d, arr, fr, p1, p2, p3, p4, p5, p6, p7, p8⟩ := H.at hs cb.1 g1
   have KA : a' = ⟨b, a'.off, none⟩ := by cases a'; simp_all
   have iW : args' = #[.slice (some ⟨b, a'.off, none⟩) xs.length c', .string sep] := by apply Array.ext'; rw [hL, g4, ← KA]
   subst iW
   refine ⟨_, _, .str _, e8, hJ b a'.off c' xs sep w (fun j x hj => ?_) (Array.getElem?_eq_some_iff.1 p5).1 (by omega) (by omega) (by omega)⟩
   have yr := (List.getElem?_eq_some_iff.1 hj).1
   obtain ⟨v', q1, q2⟩ := H.cell hs cb.1 g1 (j := j) (by omega) (by omega) (g5 j (.string x) (by simp [hj]))
   rw [kU a' p4, p2] at q1
   rw [q1, q2.iD]
end
end Go.Ve
namespace Go.Ve.T
open Go.Ve Go.Proofs Go.RowKit
noncomputable section
set_option maxRecDepth 20000
theorem AH.ad6 {h : AH} {b o n : Nat} {l : List Value} (hn : l.length = n) (H : h.can b o n) : (h.wr b o l).aW b o l := fun i v hv => by
 have hi : i < l.length := (List.getElem?_eq_some_iff.1 hv).1
 subst hn
 rw [AH.wM H (Nat.le_refl _), if_pos ⟨rfl, by omega, by omega⟩, Nat.add_sub_cancel_left]; exact hv
def FT : List (List Value) := [[(bs []), vi 0, vi 0, vi 0, vi 0, vi 0, vi 0, .bool false, .bool false],
[(bs [105, 110, 116]), vi 1, vi 4, vi 0, vi 1, vi 0, vi 0, .bool false, .bool false],
[(bs [98, 111, 111, 108]), vi 1, vi 5, vi 0, vi 1, vi 0, vi 0, .bool false, .bool false],
[(bs [118, 111, 105, 100]), vi 1, vi 0, vi 0, vi 1, vi 0, vi 0, .bool false, .bool false],
[(bs [109, 111, 118, 101]), vi 1, vi 1, vi 0, vi 1, vi 2, vi 0, .bool false, .bool false],
[(bs [115, 101, 108, 102]), vi 1, vi 0, vi 0, vi 1, vi 0, vi 0, .bool false, .bool false],
[(bs [97, 100, 100]), vi 1, vi 1, vi 1, vi 1, vi 2, vi 3, .bool true, .bool false],
[(bs [115, 117, 98]), vi 1, vi 1, vi 1, vi 1, vi 2, vi 3, .bool true, .bool false],
[(bs [109, 117, 108]), vi 1, vi 1, vi 1, vi 1, vi 2, vi 3, .bool true, .bool false],
[(bs [100, 105, 118]), vi 1, vi 1, vi 1, vi 1, vi 2, vi 3, .bool true, .bool false],
[(bs [109, 111, 100]), vi 1, vi 1, vi 1, vi 1, vi 2, vi 3, .bool true, .bool false],
[(bs [110, 101, 103]), vi 1, vi 1, vi 0, vi 1, vi 2, vi 0, .bool false, .bool false],
[(bs [101, 113]), vi 1, vi 1, vi 1, vi 1, vi 2, vi 3, .bool false, .bool false],
[(bs [108, 101, 115, 115]), vi 1, vi 1, vi 1, vi 1, vi 2, vi 3, .bool false, .bool false],
[(bs [109, 111, 115, 116]), vi 1, vi 1, vi 1, vi 1, vi 2, vi 3, .bool false, .bool false],
[(bs [110, 111, 116]), vi 1, vi 1, vi 0, vi 1, vi 2, vi 0, .bool false, .bool false],
[(bs [104, 97, 115]), vi 1, vi 1, vi 0, vi 1, vi 2, vi 0, .bool false, .bool false],
[(bs [103, 101, 116]), vi 1, vi 2, vi 7, vi 1, vi 2, vi 0, .bool true, .bool false],
[(bs [115, 101, 116]), vi 7, vi 1, vi 0, vi 0, vi 2, vi 0, .bool false, .bool false],
[(bs [97, 114, 103]), vi 6, vi 1, vi 0, vi 0, vi 2, vi 0, .bool false, .bool false],
[(bs [99, 97, 108, 108]), vi 2, vi 2, vi 8, vi 1, vi 2, vi 0, .bool true, .bool false],
[(bs [110, 101, 119]), vi 1, vi 10, vi 5, vi 1, vi 0, vi 0, .bool true, .bool false],
[(bs [109, 97, 107, 101]), vi 1, vi 9, vi 0, vi 0, vi 1, vi 0, .bool true, .bool false],
[(bs [105, 110, 118]), vi 2, vi 0, vi 0, vi 0, vi 1, vi 0, .bool true, .bool false],
[(bs [106, 117, 109, 112]), vi 3, vi 0, vi 0, vi 0, vi 0, vi 0, .bool false, .bool true],
[(bs [102, 97, 108, 115, 101]), vi 1, vi 3, vi 0, vi 0, vi 1, vi 0, .bool false, .bool false],
[(bs [114, 97, 105, 115, 101]), vi 11, vi 0, vi 0, vi 0, vi 0, vi 0, .bool true, .bool true],
[(bs [102, 97, 105, 108]), vi 0, vi 0, vi 0, vi 0, vi 0, vi 0, .bool true, .bool true],
[(bs [114, 101, 116]), vi 2, vi 0, vi 0, vi 0, vi 1, vi 0, .bool false, .bool true],
[(bs [112, 117, 116]), vi 1, vi 0, vi 0, vi 0, vi 1, vi 0, .bool false, .bool false],
[(bs [101, 110, 116, 101, 114]), vi 1, vi 0, vi 0, vi 0, vi 1, vi 0, .bool true, .bool false],
[(bs [108, 101, 97, 118, 101]), vi 0, vi 0, vi 0, vi 0, vi 0, vi 0, .bool false, .bool false],
[(bs [97, 103, 97, 105, 110]), vi 1, vi 3, vi 0, vi 0, vi 1, vi 0, .bool true, .bool false],
[(bs [108, 111, 97, 100]), vi 1, vi 12, vi 0, vi 1, vi 0, vi 0, .bool false, .bool false],
[(bs [115, 116, 111, 114, 101]), vi 12, vi 1, vi 0, vi 0, vi 2, vi 0, .bool false, .bool false]]
def isOp (op : Int) : Bool := decide (1 ≤ op ∧ op ≤ 34)
def pv (op : Int) : List Value := if isOp op then FT.getD op.toNat [] else FT.getD 0 []
theorem Ah {op : Int} (h : isOp op = true) : op = 1 ∨ op = 2 ∨ op = 3 ∨ op = 4 ∨ op = 5 ∨ op = 6 ∨ op = 7 ∨ op = 8 ∨ op = 9 ∨ op = 10 ∨ op = 11 ∨ op = 12 ∨ op = 13 ∨ op = 14 ∨ op = 15 ∨ op = 16 ∨ op = 17 ∨ op = 18 ∨ op = 19 ∨ op = 20 ∨ op = 21 ∨ op = 22 ∨ op = 23 ∨ op = 24 ∨ op = 25 ∨ op = 26 ∨ op = 27 ∨ op = 28 ∨ op = 29 ∨ op = 30 ∨ op = 31 ∨ op = 32 ∨ op = 33 ∨ op = 34 := by
 unfold isOp at h; rw [decide_eq_true_eq] at h; omega
def Mh : NT fU := NT.e.set 120 (some (aF 120))
theorem ad7 : ∀ f af, Mh.get f = some af → bN PP f = some af := fun f af h => by
 unfold Mh at h
 rw [NT.cQ] at h
 split at h
 · have := Option.some.inj h; subst this; subst f; exact ad8
 · cases h
theorem ad9 : ev Mh [] 100000 (.call 120 [] ⟨0, .e⟩ (Kx (.agg ⟨FT.flatten⟩))) = true := by kernel_rfl
section
variable {w0 : World} {h : AH} {Q : CR → AH → Prop}
open Classical in
theorem Uz (H : ∀ h', cJ h h' → (h.Ok → h'.Ok) → Q (.ret (.agg ⟨FT.flatten⟩)) h') : WF PP w0 OY [] h Q := by
 have hC : ∀ w, Can PP 120 ∧ Calls PP 120 #[] w fun E w' => E = .returned (.agg ⟨FT.flatten⟩) ∧ Below w.heap.size w w' := fun w => acI bt ad7 (sums := []) (fun p hp => by cases hp) ad9 .nil
 have hp : ux (.agg ⟨FT.flatten⟩) (.agg ⟨FT.flatten⟩) = true := by kernel_rfl
 refine ⟨(hC w0).1, fun φ args' w hl hh => ?_⟩
 have : args' = #[] := by
  cases fh : args'.toList with
  | nil => simpa using fh
  | cons _ _ => rw [fh] at hl; cases hl
 subst this
 exact Calls.mono (hC w).2 fun E w' hE => ⟨_, h, φ, decide_eq_true (H h (.refl h) id), Ext.refl _ _, Nat.le_refl _, hh.behind hE.2, _, hE.1, (zK hp φ).1⟩
theorem UA {sz : Nat} : ∀ {l : List (List Value)} {i : Nat} {x : List Value}, (∀ x ∈ l, x.length = sz) → l[i]? = some x → (l.flatten.drop (i * sz)).take sz = x
 | [], i, x, _, e => by simp at e
 | y :: l, 0, x, hs, e => by
  simp at e; subst e
  have := hs y List.mem_cons_self
  rw [Nat.zero_mul, List.drop_zero, List.flatten_cons, List.take_append_of_le_length (by omega), ← this, List.take_length]
 | y :: l, i + 1, x, hs, e => by
  have h1 := hs y List.mem_cons_self
  rw [List.flatten_cons, show (i + 1) * sz = y.length + i * sz by rw [h1, Nat.add_mul]; omega, List.drop_append, List.drop_of_length_le (by omega), List.nil_append, Nat.add_sub_cancel_left]
  exact UA (fun x hx => hs x (List.mem_cons_of_mem _ hx)) (by simpa using e)
theorem aea {h h' : AH} (K : cJ h h') {b o n : Nat} (hb : b < h.nx) : h'.can b o n ↔ h.can b o n := by unfold AH.can; rw [K.get b hb]
theorem UB {i : Nat} (hi : i < 35) : ∃ x, FT[i]? = some x ∧ FT.getD i [] = x ∧ x.length = 9 ∧ cB x = true := by
 have hl : FT.length = 35 := by kernel_rfl
 have h1 : FT.all (fun x => decide (x.length = 9) && cB x) = true := by kernel_rfl
 have hx : FT[i]? = some FT[i] := List.getElem?_eq_getElem (by omega)
 have h2 := List.all_eq_true.1 h1 FT[i] (List.getElem_mem (by omega))
 rw [Bool.and_eq_true, decide_eq_true_eq] at h2
 exact ⟨_, hx, by rw [List.getD, hx]; rfl, h2.1, h2.2⟩
theorem UC (op : Int) (H : ∀ h', cJ h h' → (h.Ok → h'.Ok) → Q (.ret (.tuple ⟨[.agg ⟨pv op⟩, .bool (isOp op)]⟩)) h') : WF PP w0 rf [vi op] h Q := by
 refine XF _ ?_
 unfold OZ
 refine (zR rfl).2 ?_
 refine iI.2 ?_
 by_cases hi : isOp op = true
 · have cI : 1 ≤ op ∧ op ≤ 34 := by unfold isOp at hi; rwa [decide_eq_true_eq] at hi
   have e1 : decide (op < 1) = false := decide_eq_false (by omega)
   have e2 : decide (34 < op) = false := decide_eq_false (by omega)
   simp only [e1, e2, Ca, pr, ld, pn, KU, KW, KX, KY, KZ, K8, K9, K3, K4, K5, K6, K7, ck, KO, bW, cond_true, cond_false, bY, av, Ln, kX (show 0 < 2 by decide), kX (show 0 < 3 by decide), kX (show 0 < 4 by decide), kX (show 0 < 7 by decide), kX (show 0 < 9 by decide), Lo, Ey, Lp, AH.Lk, AH.Lj, AH.Eg, AH.KG, AH.Ex, AH.Ll, AH.lD, if_true, if_false, Nat.zero_add, Nat.add_zero, Nat.reduceAdd, bh, bj, bn, bo, Lx, Ly, Lz, LA, List.getElem?_cons_zero, List.getElem?_cons_succ, Option.some.injEq, exists_eq_left', Option.bind_some, Option.map_some, c7, sk, iI, sn, qC, pe, eQ, KR, KT, decide_true, decide_false, Bool.not_true, Bool.not_false, Nat.left_eq_add, Nat.add_eq_zero_iff, Nat.add_eq_left, Nat.add_eq_right, Nat.reduceEqDiff, Nat.one_ne_zero, and_false, false_and, true_and, and_true, List.length_cons, List.length_nil, Nat.reduceLeDiff, Nat.le_refl, Nat.not_lt_zero, Nat.lt_irrefl, reduceCtorEq, LB, su, Lq, Lr, Ls, Lt, Lu, Lv, Lw, Bool.and_self, Bool.and_true, Bool.true_and, cC, Ez, LG, jQ, jP, List.take_zero, List.take_succ_cons, List.drop_zero, List.drop_succ_cons, List.drop_nil, List.take_nil, and_self, ↓reduceIte, List.flatMap_cons, List.flatMap_nil, List.cons_append, List.nil_append, List.append_nil, zR, Ej, Nat.sub_zero, Nat.reduceSub, Nat.reduceLT, AH.Lm, Nat.zero_le]
   unfold OX
   refine Uz fun h' K ok => ?_
   obtain ⟨k, hk⟩ : ∃ k : Nat, op = k := ⟨op.toNat, by omega⟩
   subst hk
   obtain ⟨x, x1, x2, x3, x4⟩ := UB (i := k) (by omega)
   have mP : pv (k : Int) = x := by unfold pv; rw [hi, if_pos rfl]; exact x2
   refine (ac7 (by omega) (by have : FT.flatten.length = 315 := (by kernel_rfl); omega)).2 ?_
   rw [UA (fun y hy => ?_) x1]
   rotate_left
   · have h1 : FT.all (fun x => decide (x.length = 9)) = true := by kernel_rfl
     exact of_decide_eq_true (List.all_eq_true.1 h1 y hy)
   have hc : h'.can h.nx 0 9 := (aea K (Nat.lt_succ_self _)).2 (by rw [AH.Ex, if_pos rfl]; exact Nat.le_refl 9)
   refine (Em hc (show (cellsOf (.agg ⟨x⟩)).length = 9 from x3) x4).2 ?_
   refine (El (l := x) (AH.ad6 x3 hc) x3 (by decide)).2 ?_
   simp only [mP, hi] at H
   exact H _ (((cJ.new h _ _).trans K).wr (Nat.le_refl _) _ _) (fun o => AH.uG (ok (AH.se o _ _)) _ _ _)
 · have cI : ¬ (1 ≤ op ∧ op ≤ 34) := by unfold isOp at hi; rwa [decide_eq_true_eq] at hi
   have hf : pv op = [(bs []), vi 0, vi 0, vi 0, vi 0, vi 0, vi 0, .bool false, .bool false] := by unfold pv; rw [if_neg hi]; rfl
   have hb : isOp op = false := by simpa using hi
   by_cases e1 : op < 1
   · simp only [decide_eq_true e1, Ca, pr, ld, pn, KU, KW, KX, KY, KZ, K8, K9, K3, K4, K5, K6, K7, ck, KO, bW, cond_true, cond_false, bY, av, Ln, kX (show 0 < 2 by decide), kX (show 0 < 3 by decide), kX (show 0 < 4 by decide), kX (show 0 < 7 by decide), kX (show 0 < 9 by decide), Lo, Ey, Lp, AH.Lk, AH.Lj, AH.Eg, AH.KG, AH.Ex, AH.Ll, AH.lD, if_true, if_false, Nat.zero_add, Nat.add_zero, Nat.reduceAdd, bh, bj, bn, bo, Lx, Ly, Lz, LA, List.getElem?_cons_zero, List.getElem?_cons_succ, Option.some.injEq, exists_eq_left', Option.bind_some, Option.map_some, c7, sk, iI, sn, qC, pe, eQ, KR, KT, decide_true, decide_false, Bool.not_true, Bool.not_false, Nat.left_eq_add, Nat.add_eq_zero_iff, Nat.add_eq_left, Nat.add_eq_right, Nat.reduceEqDiff, Nat.one_ne_zero, and_false, false_and, true_and, and_true, List.length_cons, List.length_nil, Nat.reduceLeDiff, Nat.le_refl, Nat.not_lt_zero, Nat.lt_irrefl, reduceCtorEq, LB, su, Lq, Lr, Ls, Lt, Lu, Lv, Lw, Bool.and_self, Bool.and_true, Bool.true_and, cC, Ez, LG, jQ, jP, List.take_zero, List.take_succ_cons, List.drop_zero, List.drop_succ_cons, List.drop_nil, List.take_nil, and_self, ↓reduceIte, List.flatMap_cons, List.flatMap_nil, List.cons_append, List.nil_append, List.append_nil, zR, Ej, Nat.sub_zero, Nat.reduceSub, Nat.reduceLT, AH.Lm, Nat.zero_le, fW (show jQ [(bs []), (vi 0), (vi 0), (vi 0), (vi 0), (vi 0), (vi 0), (.bool false), (.bool false)] [] [] = some [(bs []), (vi 0), (vi 0), (vi 0), (vi 0), (vi 0), (vi 0), (.bool false), (.bool false)] from rfl)]
     simp only [hf, hb] at H
     exact H _ ((cJ.new h _ _).wr (Nat.le_refl _) _ _) (fun o => AH.uG (AH.se o _ _) _ _ _)
   · have e2 : 34 < op := by omega
     simp only [decide_eq_false e1, decide_eq_true e2, Ca, pr, ld, pn, KU, KW, KX, KY, KZ, K8, K9, K3, K4, K5, K6, K7, ck, KO, bW, cond_true, cond_false, bY, av, Ln, kX (show 0 < 2 by decide), kX (show 0 < 3 by decide), kX (show 0 < 4 by decide), kX (show 0 < 7 by decide), kX (show 0 < 9 by decide), Lo, Ey, Lp, AH.Lk, AH.Lj, AH.Eg, AH.KG, AH.Ex, AH.Ll, AH.lD, if_true, if_false, Nat.zero_add, Nat.add_zero, Nat.reduceAdd, bh, bj, bn, bo, Lx, Ly, Lz, LA, List.getElem?_cons_zero, List.getElem?_cons_succ, Option.some.injEq, exists_eq_left', Option.bind_some, Option.map_some, c7, sk, iI, sn, qC, pe, eQ, KR, KT, decide_true, decide_false, Bool.not_true, Bool.not_false, Nat.left_eq_add, Nat.add_eq_zero_iff, Nat.add_eq_left, Nat.add_eq_right, Nat.reduceEqDiff, Nat.one_ne_zero, and_false, false_and, true_and, and_true, List.length_cons, List.length_nil, Nat.reduceLeDiff, Nat.le_refl, Nat.not_lt_zero, Nat.lt_irrefl, reduceCtorEq, LB, su, Lq, Lr, Ls, Lt, Lu, Lv, Lw, Bool.and_self, Bool.and_true, Bool.true_and, cC, Ez, LG, jQ, jP, List.take_zero, List.take_succ_cons, List.drop_zero, List.drop_succ_cons, List.drop_nil, List.take_nil, and_self, ↓reduceIte, List.flatMap_cons, List.flatMap_nil, List.cons_append, List.nil_append, List.append_nil, zR, Ej, Nat.sub_zero, Nat.reduceSub, Nat.reduceLT, AH.Lm, Nat.zero_le, fW (show jQ [(bs []), (vi 0), (vi 0), (vi 0), (vi 0), (vi 0), (vi 0), (.bool false), (.bool false)] [] [] = some [(bs []), (vi 0), (vi 0), (vi 0), (vi 0), (vi 0), (vi 0), (.bool false), (.bool false)] from rfl)]
     simp only [hf, hb] at H
     exact H _ ((cJ.new h _ _).wr (Nat.le_refl _) _ _) (fun o => AH.uG (AH.se o _ _) _ _ _)
end
end
end Go.Ve.T
namespace Go.Ve.T
open Go.Ve Go.Proofs
noncomputable section
set_option maxRecDepth 20000
def aiq : List qY := [
⟨bytesOf [], ⟨0, 0, 0⟩, 0, ⟨0, 0⟩, false, false⟩,
⟨bytesOf [105, 110, 116], ⟨1, 4, 0⟩, 1, ⟨0, 0⟩, false, false⟩,
⟨bytesOf [98, 111, 111, 108], ⟨1, 5, 0⟩, 1, ⟨0, 0⟩, false, false⟩,
⟨bytesOf [118, 111, 105, 100], ⟨1, 0, 0⟩, 1, ⟨0, 0⟩, false, false⟩,
⟨bytesOf [109, 111, 118, 101], ⟨1, 1, 0⟩, 1, ⟨2, 0⟩, false, false⟩,
⟨bytesOf [115, 101, 108, 102], ⟨1, 0, 0⟩, 1, ⟨0, 0⟩, false, false⟩,
⟨bytesOf [97, 100, 100], ⟨1, 1, 1⟩, 1, ⟨2, 3⟩, true, false⟩,
⟨bytesOf [115, 117, 98], ⟨1, 1, 1⟩, 1, ⟨2, 3⟩, true, false⟩,
⟨bytesOf [109, 117, 108], ⟨1, 1, 1⟩, 1, ⟨2, 3⟩, true, false⟩,
⟨bytesOf [100, 105, 118], ⟨1, 1, 1⟩, 1, ⟨2, 3⟩, true, false⟩,
⟨bytesOf [109, 111, 100], ⟨1, 1, 1⟩, 1, ⟨2, 3⟩, true, false⟩,
⟨bytesOf [110, 101, 103], ⟨1, 1, 0⟩, 1, ⟨2, 0⟩, false, false⟩,
⟨bytesOf [101, 113], ⟨1, 1, 1⟩, 1, ⟨2, 3⟩, false, false⟩,
⟨bytesOf [108, 101, 115, 115], ⟨1, 1, 1⟩, 1, ⟨2, 3⟩, false, false⟩,
⟨bytesOf [109, 111, 115, 116], ⟨1, 1, 1⟩, 1, ⟨2, 3⟩, false, false⟩,
⟨bytesOf [110, 111, 116], ⟨1, 1, 0⟩, 1, ⟨2, 0⟩, false, false⟩,
⟨bytesOf [104, 97, 115], ⟨1, 1, 0⟩, 1, ⟨2, 0⟩, false, false⟩,
⟨bytesOf [103, 101, 116], ⟨1, 2, 7⟩, 1, ⟨2, 0⟩, true, false⟩,
⟨bytesOf [115, 101, 116], ⟨7, 1, 0⟩, 0, ⟨2, 0⟩, false, false⟩,
⟨bytesOf [97, 114, 103], ⟨6, 1, 0⟩, 0, ⟨2, 0⟩, false, false⟩,
⟨bytesOf [99, 97, 108, 108], ⟨2, 2, 8⟩, 1, ⟨2, 0⟩, true, false⟩,
⟨bytesOf [110, 101, 119], ⟨1, 10, 5⟩, 1, ⟨0, 0⟩, true, false⟩,
⟨bytesOf [109, 97, 107, 101], ⟨1, 9, 0⟩, 0, ⟨1, 0⟩, true, false⟩,
⟨bytesOf [105, 110, 118], ⟨2, 0, 0⟩, 0, ⟨1, 0⟩, true, false⟩,
⟨bytesOf [106, 117, 109, 112], ⟨3, 0, 0⟩, 0, ⟨0, 0⟩, false, true⟩,
⟨bytesOf [102, 97, 108, 115, 101], ⟨1, 3, 0⟩, 0, ⟨1, 0⟩, false, false⟩,
⟨bytesOf [114, 97, 105, 115, 101], ⟨11, 0, 0⟩, 0, ⟨0, 0⟩, true, true⟩,
⟨bytesOf [102, 97, 105, 108], ⟨0, 0, 0⟩, 0, ⟨0, 0⟩, true, true⟩,
⟨bytesOf [114, 101, 116], ⟨2, 0, 0⟩, 0, ⟨1, 0⟩, false, true⟩,
⟨bytesOf [112, 117, 116], ⟨1, 0, 0⟩, 0, ⟨1, 0⟩, false, false⟩,
⟨bytesOf [101, 110, 116, 101, 114], ⟨1, 0, 0⟩, 0, ⟨1, 0⟩, true, false⟩,
⟨bytesOf [108, 101, 97, 118, 101], ⟨0, 0, 0⟩, 0, ⟨0, 0⟩, false, false⟩,
⟨bytesOf [97, 103, 97, 105, 110], ⟨1, 3, 0⟩, 0, ⟨1, 0⟩, true, false⟩,
⟨bytesOf [108, 111, 97, 100], ⟨1, 12, 0⟩, 1, ⟨0, 0⟩, false, false⟩,
⟨bytesOf [115, 116, 111, 114, 101], ⟨12, 1, 0⟩, 0, ⟨2, 0⟩, false, false⟩]
def qY.cells (x : qY) : List Value := [.string x.oo, vi x.dB.e0, vi x.dB.e1, vi x.dB.e2, vi x.jj, vi x.cN.e0, vi x.cN.e1, .bool x.jk, .bool x.jA]
def Gp : qY := ⟨bytesOf [], ⟨0, 0, 0⟩, 0, ⟨0, 0⟩, false, false⟩
def cw (op : Int) : qY := bif isOp op then aiq.getD op.toNat Gp else Gp
theorem air (op : Int) : (cw op).cells = pv op := by
 unfold cw pv
 cases hi : isOp op with
 | false => rfl
 | true => rcases Ah hi with rfl | rfl | rfl | rfl | rfl | rfl | rfl | rfl | rfl | rfl | rfl | rfl | rfl | rfl | rfl | rfl | rfl | rfl | rfl | rfl | rfl | rfl | rfl | rfl | rfl | rfl | rfl | rfl | rfl | rfl | rfl | rfl | rfl | rfl <;> rfl
def xo (x0 : Int) : Option (qY × Bool) := some (cw x0, isOp x0)
theorem Bc {w0 : World} {g h : AH} {Q : CR → AH → Prop} {r : qY × Bool} (x0 : Int) (sg : Sub g h) (ok : h.Ok) (M : xo x0 = some r)
 (H : ∀ (g' h' : AH), Sep ⟨g, h, []⟩ g' h' [] → Q (.ret (.tuple ⟨[(.agg ⟨[(.string r.1.oo), (vi r.1.dB.e0), (vi r.1.dB.e1), (vi r.1.dB.e2), (vi r.1.jj), (vi r.1.cN.e0), (vi r.1.cN.e1), (.bool r.1.jk), (.bool r.1.jA)]⟩), (.bool r.2)]⟩)) h') : WF PP w0 rf [vi x0] h Q := by
 cases M
 refine UC x0 fun h' K uS => ?_
 have := H g h' ((Sep.start sg ok).bS K (uS ok))
 rw [← air]; exact this
end
end Go.Ve.T
namespace Go.Ve.T
open Go.Ve Go.Proofs
noncomputable section
set_option maxRecDepth 10000
def pC (w0 : World) (g : AH) (fv : Value) (f : Int → Option Bool) : Prop := dR fv = true ∧ ∀ (a0 : Int) (r : Bool) (E K : Value → W) (g2 h2 : AH), Sub g g2 → Sub g2 h2 → h2.Ok → f a0 = some r → (∀ (g' h' : AH), Sep ⟨g2, h2, []⟩ g' h' [] → K (.bool r) h') → dy PP w0 [fv, (vi a0)] E K h2
theorem pC.mono {w0 : World} {g g' : AH} {fv : Value} {f : Int → Option Bool} (H : pC w0 g fv f) (S : Sub g g') : pC w0 g' fv f := ⟨H.1, fun a0 r E K g2 h2 s1 => H.2 a0 r E K g2 h2 (Sub.trans S s1)⟩
def oi (w0 : World) (g : AH) (fv : Value) (f : ax → Option Bool) : Prop := dR fv = true ∧ ∀ (a0 : ax) (r : Bool) (E K : Value → W) (g2 h2 : AH), Sub g g2 → Sub g2 h2 → h2.Ok → f a0 = some r → (∀ (g' h' : AH), Sep ⟨g2, h2, []⟩ g' h' [] → K (.bool r) h') → dy PP w0 [fv, (.agg ⟨[(vi a0.dJ), (vi a0.ed), (vi a0.dY)]⟩)] E K h2
theorem oi.mono {w0 : World} {g g' : AH} {fv : Value} {f : ax → Option Bool} (H : oi w0 g fv f) (S : Sub g g') : oi w0 g' fv f := ⟨H.1, fun a0 r E K g2 h2 s1 => H.2 a0 r E K g2 h2 (Sub.trans S s1)⟩
def oj (x0 : Int) (x1 : Int) (x2 : Int) : Option Bool :=
 bif (decide (x1 ≤ x0)) then (
 some (decide (x0 ≤ x2))) else (
 some false)
abbrev afR (c : Cx) (R : Value → W) (r : Bool) : Prop := ∀ (g' h' : AH), Sep c g' h' [] → R (.bool r) h'
theorem ve {w0 : World} {g h : AH} {Q : CR → AH → Prop} {r : Bool} {x0 x1 x2 : Int} (M : oj x0 x1 x2 = some r) (sg : Sub g h) (ok : h.Ok)  (H : afR ⟨g, h, []⟩ (fun v => Q (.ret v)) r) : WF PP w0 pK [(vi x0), (vi x1), (vi x2)] h Q := by
 refine Xz _ _ _ ?_
 have S := Sep.start sg ok
 unfold OU
 unfold oj at M
 refine sn.2 ?_
 cases hc : (decide (x1 ≤ x0))
 · have M := aZ hc M
   refine aC (by decide) ?_
   refine aC (by decide) ?_
   refine aC (by decide) ?_
   refine bW.2 ?_
   cases M
   exact H _ _  S.bA
 · have M := aY hc M
   refine aD rfl ?_
   refine aD rfl ?_
   refine aD rfl ?_
   refine sn.2 ?_
   refine bW.2 ?_
   cases M
   exact H _ _  S.bA
def vf (x0 : al) : Option dF :=
 some (dF.mk x0.fA x0.fB x0.fC)
abbrev afS (c : Cx) (R : Value → W) (r : dF) : Prop := ∀ (g' h' : AH), Sep c g' h' [] → R (.agg ⟨[(vi r.e0), (vi r.e1), (vi r.e2)]⟩) h'
theorem FJ {w0 : World} {g h : AH} {Q : CR → AH → Prop} {r : dF} {x0 : al} (M : vf x0 = some r) (sg : Sub g h) (ok : h.Ok)  (H : afS ⟨g, h, []⟩ (fun v => Q (.ret v)) r) : WF PP w0 vC [(.agg ⟨[(vi x0.aO), (vi x0.fA), (vi x0.fB), (vi x0.fC)]⟩)] h Q := by
 refine XH _ ?_
 have S := Sep.start sg ok
 unfold O0
 unfold vf at M
 refine S.box [(vi x0.aO), (vi x0.fA), (vi x0.fB), (vi x0.fC)] rfl (aa rfl (aa rfl (aa rfl (aa rfl rfl)))) (fun jT h S => ?_)
 refine S.alloc (l := [(vi 0), (vi 0), (vi 0)]) (aa rfl (aa rfl (aa rfl rfl))) (fun AY h S => ?_)
 refine bY.2 ?_
 refine S.bP 1 rfl rfl ?_
 refine bY.2 ?_
 refine S.bP 1 rfl rfl ?_
 refine bY.2 ?_
 refine S.bP 1 rfl rfl ?_
 refine dv [(vi x0.fA), (vi x0.fB), (vi x0.fC)] (by simp only [cC, bh, bj, bn, bo,  List.length_cons, List.length_nil, Nat.reduceAdd, Nat.zero_add, decide_true, Bool.and_self]) (by simp only [List.flatMap_cons, List.flatMap_nil, bh, bj, bn, bo,  List.cons_append, List.nil_append, List.append_nil]) ?_
 refine S.c9 [(vi x0.fA), (vi x0.fB), (vi x0.fC)] [(vi x0.fA), (vi x0.fB), (vi x0.fC)] rfl rfl (aa rfl (aa rfl (aa rfl rfl))) (Nat.le_of_ble_eq_true rfl) rfl (fun h S => ?_)
 refine S.cK [(vi x0.fA), (vi x0.fB), (vi x0.fC)] 0 rfl rfl rfl (by decide) ?_
 cases M
 exact H _ _  S.bA
def FK (N : Nat) (aN : Int) (bR : List Int) (iv : al) (dh : (List Int) → Int → Option ((List Int))) : Option ((List Int)) :=
 dh bR (bD .i64 (aN + 1))
def MX (N : Nat) (v11 : dF) (aN : Int) (v1 : al) (ar : List Int) (dh : (List Int) → Int → Option ((List Int))) : Option ((List Int)) :=
(ix [v11.e0, v11.e1, v11.e2] aN).bind fun gz =>
 bif (decide (gz = 3)) then (
(vf v1).bind fun dK =>
(ix [dK.e0, dK.e1, dK.e2] aN).bind fun eC =>
 gu (decide (ar.length + [eC].length ≤ 1048576)) (
 FK N aN (ar ++ [eC]) v1 dh)) else (
 FK N aN ar v1 dh)
def MY (N : Nat) (y9 : List Int)  : Option ((List Int)) :=
 some y9
def MZ (N : Nat) (v11 : dF) (v1 : al) (ar : List Int) (aN : Int) (dh : (List Int) → Int → Option ((List Int))) : Option ((List Int)) :=
 bif (decide (aN < 3)) then (
 MX N v11 aN v1 ar dh) else (
 MY N ar)
def FL (N : Nat) (v11 : dF) (v1 : al)  : Nat → (List Int) → Int → Option ((List Int))
 | 0, _, _ => none
 | n + 1, ar, aN => MZ N v11 v1 ar aN  (fun aq bp => FL N v11 v1 n aq bp)
def vg (N : Nat) (x0 : al) : Option ((List Int)) :=
(xo x0.aO).bind fun aJ =>
 FL N aJ.1.dB x0 N ([] : List Int) 0
abbrev xp (c : Cx) (R : Value → W) (r : (List Int)) : Prop := ∀ (g' h' : AH) (w1 : Value), Sep c g' h' [] → ae (rI .i64) 1 g' w1 r → R w1 h'
theorem VM {w0 : World} {c : Cx} {g h : AH} {E R : Value → W} {r : (List Int)} {N : Nat} {aN : Int} {bR : List Int} {iv : al} {AZ : Value} {A7 : List (List Value)} {A8 : Nat} {dk : Value → Value → W} {dh : (List Int) → Int → Option ((List Int))} {gN : AH} (M : FK N aN bR iv dh = some r) (S : Sep c g h [.sl 3 1 AZ A7, .bx A8 [(vi iv.aO), (vi iv.fA), (vi iv.fB), (vi iv.fC)]]) (M0 : aw ((rI .i64) g) A7 bR) (jh : Sub gN g) (ji : ∀ {aq : List Int} {eD : Value} {eE : List (List Value)} {bp : Int} {g2 h2 : AH}, dh aq bp = some r → Sub gN g2 → Sep c g2 h2 [.bx A8 [(vi iv.aO), (vi iv.fA), (vi iv.fB), (vi iv.fC)], .sl 3 1 eD eE] → aw ((rI .i64) g2) eE aq → dk eD (vi bp) h2) (H : xp c R r) : Cb w0 E R (vi aN) dk AZ h := by
 unfold Cb
 unfold FK at M
 refine lE.2 ?_
 have S := S.f1
 exact ji M jh S M0
theorem afT {w0 : World} {c : Cx} {g h : AH} {E R : Value → W} {r : (List Int)} {N : Nat} {v11 : dF} {aN : Int} {v1 : al} {ar : List Int} {au : Nat} {ft : Value} {eZ : List (List Value)} {dk : Value → Value → W} {dh : (List Int) → Int → Option ((List Int))} {gN : AH} (M : MX N v11 aN v1 ar dh = some r) (S : Sep c g h [.bx au [(vi v1.aO), (vi v1.fA), (vi v1.fB), (vi v1.fC)], .sl 3 1 ft eZ]) (fu : aw ((rI .i64) g) eZ ar) (jh : Sub gN g) (ji : ∀ {aq : List Int} {eD : Value} {eE : List (List Value)} {bp : Int} {g2 h2 : AH}, dh aq bp = some r → Sub gN g2 → Sep c g2 h2 [.bx au [(vi v1.aO), (vi v1.fA), (vi v1.fB), (vi v1.fC)], .sl 3 1 eD eE] → aw ((rI .i64) g2) eE aq → dk eD (vi bp) h2) (H : xp c R r) : GI w0 E R (.agg ⟨[(vi v11.e0), (vi v11.e1), (vi v11.e2)]⟩) (vi aN) (av au 0) ft dk h := by
 unfold GI
 unfold MX at M
 obtain ⟨gz, om, M⟩ := bind_some M
 refine xm [v11.e0, v11.e1, v11.e2] (fun q => (vi q)) rfl om ?_
 refine c7.2 ?_
 refine bE (fun hc => ?_) (fun hc => ?_)
 · have M := aY hc M
   refine S.cK [(vi v1.aO), (vi v1.fA), (vi v1.fB), (vi v1.fC)] 0 rfl rfl rfl (by decide) ?_
   obtain ⟨dK, mo, M⟩ := bind_some M
   refine FJ mo S.sub S.ok (fun _ h  S1  => ?_)
   have S := S.dz S1
   obtain ⟨eC, vh, M⟩ := bind_some M
   refine xm [dK.e0, dK.e1, dK.e2] (fun q => (vi q)) rfl vh ?_
   refine S.uX [[(vi eC)]] (cq (m := [(vi eC)]) (l2 := [(vi eC)]) rfl rfl (Nat.le_of_ble_eq_true rfl) rfl rfl) rfl (by decide) (u9 rfl uZ) (aa rfl rfl) (fun aj4 h S => ?_)
   have AP : aw ((rI .i64) g) [[(vi eC)]] [eC] := (aw.push aw.nil (show (rI .i64) g [(vi eC)] eC from rfl))
   have S := S.f2
   obtain ⟨afU, M⟩ := ml M
   refine S.app (S.rd 1 rfl) (by rw [fu.1, AP.1]; exact afU) (by decide) rfl (nh (pB .i64) AP) (nh (pB .i64) fu) (fun afV h S => ?_)
   have A9 : aw ((rI .i64) g) (eZ ++ [[(vi eC)]]) (ar ++ [eC]) := aw.append fu AP
   have S := S.f2
   have S := S.f1
   have S := S.t2
   exact VM M S A9 jh ji H
 · have M := aZ hc M
   have S := S.f1
   exact VM M S fu jh ji H
theorem afW {w0 : World} {c : Cx} {g h : AH} {E R : Value → W} {r : (List Int)} {N : Nat} {y9 : List Int} {vj : Value} {Ba : List (List Value)}  (M : MY N y9 = some r) (S : Sep c g h [.sl 3 1 vj Ba]) (M1 : aw ((rI .i64) g) Ba y9)  (H : xp c R r) : GH w0 E R vj h := by
 unfold GH
 unfold MY at M
 obtain ⟨g, sg, S, afX⟩ := S.fz M1 (gK .i64)
 cases M
 exact H _ _ vj S.bA afX
theorem afY {w0 : World} {c : Cx} {g h : AH} {E R : Value → W} {r : (List Int)} {N : Nat} {v11 : dF} {v1 : al} {ar : List Int} {aN : Int} {au : Nat} {ft : Value} {eZ : List (List Value)} {dk : Value → Value → W} {dh : (List Int) → Int → Option ((List Int))} {gN : AH} (M : MZ N v11 v1 ar aN dh = some r) (S : Sep c g h [.bx au [(vi v1.aO), (vi v1.fA), (vi v1.fB), (vi v1.fC)], .sl 3 1 ft eZ]) (fu : aw ((rI .i64) g) eZ ar) (jh : Sub gN g) (ji : ∀ {aq : List Int} {eD : Value} {eE : List (List Value)} {bp : Int} {g2 h2 : AH}, dh aq bp = some r → Sub gN g2 → Sep c g2 h2 [.bx au [(vi v1.aO), (vi v1.fA), (vi v1.fB), (vi v1.fC)], .sl 3 1 eD eE] → aw ((rI .i64) g2) eE aq → dk eD (vi bp) h2) (H : xp c R r) : Cc w0 E R (.agg ⟨[(vi v11.e0), (vi v11.e1), (vi v11.e2)]⟩) (av au 0) dk ft (vi aN) h := by
 unfold Cc
 unfold MZ at M
 refine iI.2 ?_
 refine bE (fun hc => ?_) (fun hc => ?_)
 · have M := aY hc M
   exact afT M S fu jh ji H
 · have M := aZ hc M
   have S := S.f1
   have S := S.t1
   exact afW M S fu H
theorem afZ {w0 : World} {c : Cx} {E R : Value → W} {r : (List Int)} {N : Nat} {v11 : dF} {v1 : al} {au : Nat}   (H : xp c R r) : ∀ (n : Nat) {ar : List Int} {aN : Int} {ft : Value} {eZ : List (List Value)} {g h : AH}, FL N v11 v1 n ar aN = some r → Sep c g h [.bx au [(vi v1.aO), (vi v1.fA), (vi v1.fB), (vi v1.fC)], .sl 3 1 ft eZ] → aw ((rI .i64) g) eZ ar → gr (α := Value × Value) (fun k a => Cc w0 E R (.agg ⟨[(vi v11.e0), (vi v11.e1), (vi v11.e2)]⟩) (av au 0) (fun b0 b1 => k (b0, b1)) a.1 a.2) n (ft, (vi aN)) h := by
 intro n
 induction n with
 | zero =>
  intro ar aN ft eZ g h M S fu
  unfold FL at M; cases M
 | succ n ih =>
  intro ar aN ft eZ g h M S fu
  exact afY M S fu  (Sub.refl g) (fun M2 sub S2 Bb => ih M2 S2 Bb ) H
theorem VN {w0 : World} {g h : AH} {Q : CR → AH → Prop} {r : (List Int)} {N : Nat} {x0 : al} (M : vg N x0 = some r) (sg : Sub g h) (ok : h.Ok)  (H : xp ⟨g, h, []⟩ (fun v => Q (.ret v)) r) : WF PP w0 Cd [(.agg ⟨[(vi x0.aO), (vi x0.fA), (vi x0.fB), (vi x0.fC)]⟩)] h Q := by
 refine XJ _ ?_
 have S := Sep.start sg ok
 unfold O1
 unfold vg at M
 refine S.box [(vi x0.aO), (vi x0.fA), (vi x0.fB), (vi x0.fC)] rfl (aa rfl (aa rfl (aa rfl (aa rfl rfl)))) (fun jT h S => ?_)
 refine bY.2 ?_
 refine S.bP 0 rfl rfl ?_
 obtain ⟨aJ, im, M⟩ := bind_some M
 refine Bc x0.aO S.sub S.ok im (fun _ h  S1  => ?_)
 have S := S.dz S1
 refine (jd rfl).2 ?_
 refine (jd rfl).2 ?_
 refine S.alloc (l := [(.string (⟨⟨[]⟩⟩ : ByteArray)), (vi 0), (vi 0), (vi 0), (vi 0), (vi 0), (vi 0), (.bool false), (.bool false)]) (aa rfl (aa rfl (aa rfl (aa rfl (aa rfl (aa rfl (aa rfl (aa rfl (aa rfl rfl))))))))) (fun M3 h S => ?_)
 refine S.c9 [(.string aJ.1.oo), (vi aJ.1.dB.e0), (vi aJ.1.dB.e1), (vi aJ.1.dB.e2), (vi aJ.1.jj), (vi aJ.1.cN.e0), (vi aJ.1.cN.e1), (.bool aJ.1.jk), (.bool aJ.1.jA)] [(.string aJ.1.oo), (vi aJ.1.dB.e0), (vi aJ.1.dB.e1), (vi aJ.1.dB.e2), (vi aJ.1.jj), (vi aJ.1.cN.e0), (vi aJ.1.cN.e1), (.bool aJ.1.jk), (.bool aJ.1.jA)] rfl rfl (aa rfl (aa rfl (aa rfl (aa rfl (aa rfl (aa rfl (aa rfl (aa rfl (aa rfl rfl))))))))) (Nat.le_of_ble_eq_true rfl) rfl (fun h S => ?_)
 refine bY.2 ?_
 refine S.cK [(vi aJ.1.dB.e0), (vi aJ.1.dB.e1), (vi aJ.1.dB.e2)] 0 rfl rfl rfl (by decide) ?_
 have S := S.AS 3 1
 have S := S.f2
 have S := S.t2
 exact ⟨N, afZ  H _ M S (aw.nil (R := (rI .i64) g)) ⟩
def M4 (N : Nat) (y3 : Int) (cg : Int → Option Int) : Option Int :=
 cg (bD .i64 (y3 + 1))
def M5 (N : Nat) (x0 : List Int) (y3 : Int) (x1 : Int → Option Bool) (cg : Int → Option Int) : Option Int :=
(ix x0 y3).bind fun dZ =>
(x1 dZ).bind fun dK =>
 bif dK then (
 some y3) else (
 M4 N y3 cg)
def M6 (N : Nat)   : Option Int :=
 some (-1)
def M7 (N : Nat) (v1 : Int) (x0 : List Int) (x1 : Int → Option Bool) (y3 : Int) (cg : Int → Option Int) : Option Int :=
 bif (decide (y3 < v1)) then (
 M5 N x0 y3 x1 cg) else (
 M6 N )
def xq (N : Nat) (v1 : Int) (x0 : List Int) (x1 : Int → Option Bool)  : Nat → Int → Option Int
 | 0, _ => none
 | n + 1, y3 => M7 N v1 x0 x1 y3  (fun aq => xq N v1 x0 x1 n aq)
def Bd (N : Nat) (x0 : List Int) (x1 : Int → Option Bool) : Option Int :=
 xq N (x0.length : Int) x0 x1 N 0
abbrev xr (c : Cx) (R : Value → W) (r : Int) : Prop := ∀ (g' h' : AH), Sep c g' h' [] → R (vi r) h'
theorem af0 {w0 : World} {c : Cx} {g h : AH} {E R : Value → W} {r : Int} {N : Nat} {y3 : Int} {k2 : Value → W} {cg : Int → Option Int} {fO : AH} (M : M4 N y3 cg = some r) (S : Sep c g h [])  (jV : Sub fO g) (jW : ∀ {aq : Int} {g2 h2 : AH}, cg aq = some r → Sub fO g2 → Sep c g2 h2 [] → k2 (vi aq) h2) (H : xr c R r) : GB w0 E R (vi y3) k2 h := by
 unfold GB
 unfold M4 at M
 refine lE.2 ?_
 exact jW M jV S
theorem af1 {w0 : World} {c : Cx} {g h : AH} {E R : Value → W} {r : Int} {N : Nat} {x0 : List Int} {y3 : Int} {x1 : Int → Option Bool} {bC cV : Value} {k2 : Value → W} {cg : Int → Option Int} {fO : AH} (M : M5 N x0 y3 x1 cg = some r) (S : Sep c g h []) (bK : ae (rI .i64) 1 g bC x0) (dG : pC w0 g cV x1) (jV : Sub fO g) (jW : ∀ {aq : Int} {g2 h2 : AH}, cg aq = some r → Sub fO g2 → Sep c g2 h2 [] → k2 (vi aq) h2) (H : xr c R r) : GC w0 E R bC (vi y3) cV k2 h := by
 unfold GC
 unfold M5 at M
 obtain ⟨dZ, jS, M⟩ := bind_some M
 refine ae.idx bK jS (fun xa Fs vs Ml uM rp => ?_)
 cases rp
 refine S.dN (uM 0 _ rfl) ?_
 obtain ⟨dK, mo, M⟩ := bind_some M
 refine dG.2 dZ _ _ _ _ _ (Sub.refl _) S.sub S.ok  mo (fun _ h  S1  => ?_)
 have S := S.dz S1
 refine bE (fun hc => ?_) (fun hc => ?_)
 · have M := aY hc M
   cases M
   exact H _ _  S.bA
 · have M := aZ hc M
   exact af0 M S jV jW H
theorem af2 {w0 : World} {c : Cx} {g h : AH} {E R : Value → W} {r : Int} {N : Nat}   (M : M6 N  = some r) (S : Sep c g h [])   (H : xr c R r) : GA w0 E R  h := by
 unfold GA
 unfold M6 at M
 cases M
 exact H _ _  S.bA
theorem af3 {w0 : World} {c : Cx} {g h : AH} {E R : Value → W} {r : Int} {N : Nat} {v1 : Int} {x0 : List Int} {x1 : Int → Option Bool} {y3 : Int} {bC cV : Value} {k2 : Value → W} {cg : Int → Option Int} {fO : AH} (M : M7 N v1 x0 x1 y3 cg = some r) (S : Sep c g h []) (bK : ae (rI .i64) 1 g bC x0) (dG : pC w0 g cV x1) (jV : Sub fO g) (jW : ∀ {aq : Int} {g2 h2 : AH}, cg aq = some r → Sub fO g2 → Sep c g2 h2 [] → k2 (vi aq) h2) (H : xr c R r) : B9 w0 E R (vi v1) bC cV k2 (vi y3) h := by
 unfold B9
 unfold M7 at M
 refine iI.2 ?_
 refine bE (fun hc => ?_) (fun hc => ?_)
 · have M := aY hc M
   exact af1 M S bK dG jV jW H
 · have M := aZ hc M
   exact af2 M S  H
theorem af4 {w0 : World} {c : Cx} {E R : Value → W} {r : Int} {N : Nat} {v1 : Int} {x0 : List Int} {x1 : Int → Option Bool} {bC cV : Value}   (H : xr c R r) : ∀ (n : Nat) {y3 : Int} {g h : AH}, xq N v1 x0 x1 n y3 = some r → Sep c g h [] → ae (rI .i64) 1 g bC x0 → pC w0 g cV x1 → gr (α := Value) (fun k a => B9 w0 E R (vi v1) bC cV k a) n (vi y3) h := by
 intro n
 induction n with
 | zero =>
  intro y3  g h M S bK dG
  unfold xq at M; cases M
 | succ n ih =>
  intro y3  g h M S bK dG
  exact af3 M S bK dG  (Sub.refl g) (fun M2 sub S2  => ih M2 S2 (ae.mono bK (gK .i64) sub) (pC.mono dG sub) ) H
theorem af5 {w0 : World} {g h : AH} {Q : CR → AH → Prop} {r : Int} {N : Nat} {x0 : List Int} {x1 : Int → Option Bool} {bC cV : Value} (M : Bd N x0 x1 = some r) (sg : Sub g h) (ok : h.Ok) (bK : ae (rI .i64) 1 g bC x0) (dG : pC w0 g cV x1) (H : xr ⟨g, h, []⟩ (fun v => Q (.ret v)) r) : WF PP w0 GD [bC, cV] h Q := by
 refine XB _ _ ?_
 have S := Sep.start sg ok
 unfold OV
 unfold Bd at M
 refine bK.len ?_
 exact ⟨N, af4  H _ M S bK dG ⟩
def Be (N : Nat) (x0 : List Int) (x1 : Int → Option Bool) : Option Bool :=
(Bd N x0 x1).bind fun dZ =>
 some (decide (0 ≤ dZ))
abbrev af6 (c : Cx) (R : Value → W) (r : Bool) : Prop := ∀ (g' h' : AH), Sep c g' h' [] → R (.bool r) h'
theorem af7 {w0 : World} {g h : AH} {Q : CR → AH → Prop} {r : Bool} {N : Nat} {x0 : List Int} {x1 : Int → Option Bool} {bC cV : Value} (M : Be N x0 x1 = some r) (sg : Sub g h) (ok : h.Ok) (bK : ae (rI .i64) 1 g bC x0) (dG : pC w0 g cV x1) (H : af6 ⟨g, h, []⟩ (fun v => Q (.ret v)) r) : WF PP w0 GF [bC, cV] h Q := by
 refine XD _ _ ?_
 have S := Sep.start sg ok
 unfold OW
 unfold Be at M
 obtain ⟨dZ, jS, M⟩ := bind_some M
 refine af5 jS S.sub S.ok bK dG (fun _ h  S1  => ?_)
 have S := S.dz S1
 refine pe.2 ?_
 cases M
 exact H _ _  S.bA
def M8 (N : Nat) (y3 : Int) (cg : Int → Option Int) : Option Int :=
 cg (bD .i64 (y3 + 1))
def M9 (N : Nat) (x0 : List ax) (y3 : Int) (x1 : ax → Option Bool) (cg : Int → Option Int) : Option Int :=
(ix x0 y3).bind fun dZ =>
(x1 dZ).bind fun dK =>
 bif dK then (
 some y3) else (
 M8 N y3 cg)
def Na (N : Nat)   : Option Int :=
 some (-1)
def Nb (N : Nat) (v1 : Int) (x0 : List ax) (x1 : ax → Option Bool) (y3 : Int) (cg : Int → Option Int) : Option Int :=
 bif (decide (y3 < v1)) then (
 M9 N x0 y3 x1 cg) else (
 Na N )
def xu (N : Nat) (v1 : Int) (x0 : List ax) (x1 : ax → Option Bool)  : Nat → Int → Option Int
 | 0, _ => none
 | n + 1, y3 => Nb N v1 x0 x1 y3  (fun aq => xu N v1 x0 x1 n aq)
def xv (N : Nat) (x0 : List ax) (x1 : ax → Option Bool) : Option Int :=
 xu N (x0.length : Int) x0 x1 N 0
abbrev xw (c : Cx) (R : Value → W) (r : Int) : Prop := ∀ (g' h' : AH), Sep c g' h' [] → R (vi r) h'
theorem af8 {w0 : World} {c : Cx} {g h : AH} {E R : Value → W} {r : Int} {N : Nat} {y3 : Int} {k2 : Value → W} {cg : Int → Option Int} {fO : AH} (M : M8 N y3 cg = some r) (S : Sep c g h [])  (jV : Sub fO g) (jW : ∀ {aq : Int} {g2 h2 : AH}, cg aq = some r → Sub fO g2 → Sep c g2 h2 [] → k2 (vi aq) h2) (H : xw c R r) : GK w0 E R (vi y3) k2 h := by
 unfold GK
 unfold M8 at M
 refine lE.2 ?_
 exact jW M jV S
theorem af9 {w0 : World} {c : Cx} {g h : AH} {E R : Value → W} {r : Int} {N : Nat} {x0 : List ax} {y3 : Int} {x1 : ax → Option Bool} {bC cV : Value} {k2 : Value → W} {cg : Int → Option Int} {fO : AH} (M : M9 N x0 y3 x1 cg = some r) (S : Sep c g h []) (bK : ae ax.rep 3 g bC x0) (dG : oi w0 g cV x1) (jV : Sub fO g) (jW : ∀ {aq : Int} {g2 h2 : AH}, cg aq = some r → Sub fO g2 → Sep c g2 h2 [] → k2 (vi aq) h2) (H : xw c R r) : GL w0 E R bC (vi y3) cV k2 h := by
 unfold GL
 unfold M9 at M
 obtain ⟨dZ, jS, M⟩ := bind_some M
 refine ae.idx bK jS (fun xa Fs vs Ml uM rp => ?_)
 cases rp
 refine S.oc uM rfl (by decide) ?_
 obtain ⟨dK, mo, M⟩ := bind_some M
 refine dG.2 dZ _ _ _ _ _ (Sub.refl _) S.sub S.ok  mo (fun _ h  S1  => ?_)
 have S := S.dz S1
 refine bE (fun hc => ?_) (fun hc => ?_)
 · have M := aY hc M
   cases M
   exact H _ _  S.bA
 · have M := aZ hc M
   exact af8 M S jV jW H
theorem aga {w0 : World} {c : Cx} {g h : AH} {E R : Value → W} {r : Int} {N : Nat}   (M : Na N  = some r) (S : Sep c g h [])   (H : xw c R r) : GJ w0 E R  h := by
 unfold GJ
 unfold Na at M
 cases M
 exact H _ _  S.bA
theorem agb {w0 : World} {c : Cx} {g h : AH} {E R : Value → W} {r : Int} {N : Nat} {v1 : Int} {x0 : List ax} {x1 : ax → Option Bool} {y3 : Int} {bC cV : Value} {k2 : Value → W} {cg : Int → Option Int} {fO : AH} (M : Nb N v1 x0 x1 y3 cg = some r) (S : Sep c g h []) (bK : ae ax.rep 3 g bC x0) (dG : oi w0 g cV x1) (jV : Sub fO g) (jW : ∀ {aq : Int} {g2 h2 : AH}, cg aq = some r → Sub fO g2 → Sep c g2 h2 [] → k2 (vi aq) h2) (H : xw c R r) : Cf w0 E R (vi v1) bC cV k2 (vi y3) h := by
 unfold Cf
 unfold Nb at M
 refine iI.2 ?_
 refine bE (fun hc => ?_) (fun hc => ?_)
 · have M := aY hc M
   exact af9 M S bK dG jV jW H
 · have M := aZ hc M
   exact aga M S  H
theorem agc {w0 : World} {c : Cx} {E R : Value → W} {r : Int} {N : Nat} {v1 : Int} {x0 : List ax} {x1 : ax → Option Bool} {bC cV : Value}   (H : xw c R r) : ∀ (n : Nat) {y3 : Int} {g h : AH}, xu N v1 x0 x1 n y3 = some r → Sep c g h [] → ae ax.rep 3 g bC x0 → oi w0 g cV x1 → gr (α := Value) (fun k a => Cf w0 E R (vi v1) bC cV k a) n (vi y3) h := by
 intro n
 induction n with
 | zero =>
  intro y3  g h M S bK dG
  unfold xu at M; cases M
 | succ n ih =>
  intro y3  g h M S bK dG
  exact agb M S bK dG  (Sub.refl g) (fun M2 sub S2  => ih M2 S2 (ae.mono bK ax.mono sub) (oi.mono dG sub) ) H
theorem VO {w0 : World} {g h : AH} {Q : CR → AH → Prop} {r : Int} {N : Nat} {x0 : List ax} {x1 : ax → Option Bool} {bC cV : Value} (M : xv N x0 x1 = some r) (sg : Sub g h) (ok : h.Ok) (bK : ae ax.rep 3 g bC x0) (dG : oi w0 g cV x1) (H : xw ⟨g, h, []⟩ (fun v => Q (.ret v)) r) : WF PP w0 Cg [bC, cV] h Q := by
 refine XN _ _ ?_
 have S := Sep.start sg ok
 unfold O3
 unfold xv at M
 refine bK.len ?_
 exact ⟨N, agc  H _ M S bK dG ⟩
def FM (N : Nat) (x0 : List ax) (x1 : ax → Option Bool) : Option Bool :=
(xv N x0 x1).bind fun dZ =>
 some (decide (0 ≤ dZ))
abbrev agd (c : Cx) (R : Value → W) (r : Bool) : Prop := ∀ (g' h' : AH), Sep c g' h' [] → R (.bool r) h'
theorem age {w0 : World} {g h : AH} {Q : CR → AH → Prop} {r : Bool} {N : Nat} {x0 : List ax} {x1 : ax → Option Bool} {bC cV : Value} (M : FM N x0 x1 = some r) (sg : Sub g h) (ok : h.Ok) (bK : ae ax.rep 3 g bC x0) (dG : oi w0 g cV x1) (H : agd ⟨g, h, []⟩ (fun v => Q (.ret v)) r) : WF PP w0 GS [bC, cV] h Q := by
 refine XZ _ _ ?_
 have S := Sep.start sg ok
 unfold Pc
 unfold FM at M
 obtain ⟨dZ, jS, M⟩ := bind_some M
 refine VO jS S.sub S.ok bK dG (fun _ h  S1  => ?_)
 have S := S.dz S1
 refine pe.2 ?_
 cases M
 exact H _ _  S.bA
def xx (x0 : Int) (x1 : Int) : Option Bool :=
(oj x0 0 (bD .i64 (x1 - 1))).bind fun dZ =>
 some (!dZ)
abbrev agf (c : Cx) (R : Value → W) (r : Bool) : Prop := ∀ (g' h' : AH), Sep c g' h' [] → R (.bool r) h'
theorem agh {w0 : World} {g h : AH} {Q : CR → AH → Prop} {r : Bool} {x0 x1 : Int} {lL : Nat} (M : xx x0 x1 = some r) (sg : Sub g h) (ok : h.Ok) (mq : g.aW lL 0 [(vi x1)]) (H : agf ⟨g, h, []⟩ (fun v => Q (.ret v)) r) : WF PP w0 Cj [(vi x0), (av lL 0)] h Q := by
 refine XV _ _ ?_
 have S := Sep.start sg ok
 unfold Pa
 unfold xx at M
 refine S.dN (mq 0 _ rfl) ?_
 refine mY.2 ?_
 obtain ⟨dZ, jS, M⟩ := bind_some M
 refine ve jS S.sub S.ok (fun _ h  S1  => ?_)
 have S := S.dz S1
 refine eQ.2 ?_
 cases M
 exact H _ _  S.bA
def Bf (v1 : ax) (x1 : Int) (cj : Bool)  : Option Bool :=
 bif cj then (
 some true) else (
(oj v1.dY 0 (bD .i64 (x1 - 1))).bind fun aJ =>
 some (!aJ))
def Bg (v1 : ax) (x1 : Int) (v10 : Bool)  : Option Bool :=
 bif v10 then (
 Bf v1 x1 true) else (
 Bf v1 x1 (decide (x1 < v1.ed)))
def xy (x0 : ax) (x1 : Int) : Option Bool :=
 bif (decide (x0.dJ < 0)) then (
 Bg x0 x1 true) else (
 Bg x0 x1 (decide (x0.ed ≤ x0.dJ)))
abbrev Nc (c : Cx) (R : Value → W) (r : Bool) : Prop := ∀ (g' h' : AH), Sep c g' h' [] → R (.bool r) h'
theorem VP {w0 : World} {c : Cx} {g h : AH} {E R : Value → W} {r : Bool} {v1 : ax} {x1 : Int} {cj : Bool} {au lL : Nat}  (M : Bf v1 x1 cj = some r) (S : Sep c g h [.bx au [(vi v1.dJ), (vi v1.ed), (vi v1.dY)]]) (mq : g.aW lL 0 [(vi x1)])  (H : Nc c R r) : GQ w0 E R (av au 0) (av lL 0) (.bool cj) h := by
 unfold GQ
 unfold Bf at M
 cases hc : cj
 · have M := aZ hc M
   refine aD rfl ?_
   refine bY.2 ?_
   refine aD rfl ?_
   refine S.bP 0 rfl rfl ?_
   refine aD rfl ?_
   refine S.dN (mq 0 _ rfl) ?_
   refine aD rfl ?_
   refine mY.2 ?_
   refine aD rfl ?_
   obtain ⟨aJ, im, M⟩ := bind_some M
   refine ve im S.sub S.ok (fun _ h  S1  => ?_)
   have S := S.dz S1
   refine aD rfl ?_
   refine eQ.2 ?_
   refine bW.2 ?_
   cases M
   exact H _ _  S.bA
 · have M := aY hc M
   refine aC (by decide) ?_
   refine aC (by decide) ?_
   refine aC (by decide) ?_
   refine aC (by decide) ?_
   refine aC (by decide) ?_
   refine aC (by decide) ?_
   refine bW.2 ?_
   cases M
   exact H _ _  S.bA
theorem VQ {w0 : World} {c : Cx} {g h : AH} {E R : Value → W} {r : Bool} {v1 : ax} {x1 : Int} {v10 : Bool} {au lL : Nat}  (M : Bg v1 x1 v10 = some r) (S : Sep c g h [.bx au [(vi v1.dJ), (vi v1.ed), (vi v1.dY)]]) (mq : g.aW lL 0 [(vi x1)])  (H : Nc c R r) : GR w0 E R (av au 0) (av lL 0) (.bool v10) h := by
 unfold GR
 unfold Bg at M
 cases hc : v10
 · have M := aZ hc M
   refine aD rfl ?_
   refine bY.2 ?_
   refine aD rfl ?_
   refine S.bP 0 rfl rfl ?_
   refine aD rfl ?_
   refine S.dN (mq 0 _ rfl) ?_
   refine aD rfl ?_
   refine qC.2 ?_
   refine bW.2 ?_
   exact VP M S mq H
 · have M := aY hc M
   refine aC (by decide) ?_
   refine aC (by decide) ?_
   refine aC (by decide) ?_
   refine aC (by decide) ?_
   refine bW.2 ?_
   exact VP M S mq H
theorem agi {w0 : World} {g h : AH} {Q : CR → AH → Prop} {r : Bool} {x0 : ax} {x1 : Int} {lL : Nat} (M : xy x0 x1 = some r) (sg : Sub g h) (ok : h.Ok) (mq : g.aW lL 0 [(vi x1)]) (H : Nc ⟨g, h, []⟩ (fun v => Q (.ret v)) r) : WF PP w0 Ck [(.agg ⟨[(vi x0.dJ), (vi x0.ed), (vi x0.dY)]⟩), (av lL 0)] h Q := by
 refine XX _ _ ?_
 have S := Sep.start sg ok
 unfold Pb
 unfold xy at M
 refine S.box [(vi x0.dJ), (vi x0.ed), (vi x0.dY)] rfl (aa rfl (aa rfl (aa rfl rfl))) (fun jT h S => ?_)
 refine bY.2 ?_
 refine S.bP 0 rfl rfl ?_
 refine iI.2 ?_
 cases hc : (decide (x0.dJ < 0))
 · have M := aZ hc M
   refine aD rfl ?_
   refine bY.2 ?_
   refine aD rfl ?_
   refine S.bP 0 rfl rfl ?_
   refine aD rfl ?_
   refine bY.2 ?_
   refine aD rfl ?_
   refine S.bP 0 rfl rfl ?_
   refine aD rfl ?_
   refine pe.2 ?_
   refine bW.2 ?_
   exact VQ M S mq H
 · have M := aY hc M
   refine aC (by decide) ?_
   refine aC (by decide) ?_
   refine aC (by decide) ?_
   refine aC (by decide) ?_
   refine aC (by decide) ?_
   refine bW.2 ?_
   exact VQ M S mq H
def Nd (N : Nat) (bR : Int) (cO : ah) (iL : Int → Option Bool) : Option Bool :=
 iL (bD .i64 (bR + 1))
def xz (N : Nat) (bR : Int) (jq : Bool) (cO : ah) (iL : Int → Option Bool) : Option Bool :=
 bif jq then (
 some false) else (
 Nd N bR cO iL)
def Nf (N : Nat) (bX : List al) (bR : Int) (v5 : Int) (cO : ah) (iL : Int → Option Bool) : Option Bool :=
(ix bX bR).bind fun iM =>
(xo iM.aO).bind fun fw =>
 bif (!fw.2) then (
 xz N bR true cO iL) else (
(vg N iM).bind fun FN =>
(Be N FN (fun a0 => xx a0 v5)).bind fun qS =>
 xz N bR qS cO iL)
def xA (N : Nat) (v1 : ah) (v5 : Int)  : Option Bool :=
(FM N v1.ay (fun a0 => xy a0 v5)).bind fun VS =>
 some (!VS)
def Ng (N : Nat) (cH : Int) (bX : List al) (v5 : Int) (v1 : ah) (bR : Int) (iL : Int → Option Bool) : Option Bool :=
 bif (decide (bR < cH)) then (
 Nf N bX bR v5 v1 iL) else (
 xA N v1 v5)
def Bh (N : Nat) (cH : Int) (bX : List al) (v5 : Int) (v1 : ah)  : Nat → Int → Option Bool
 | 0, _ => none
 | n + 1, bR => Ng N cH bX v5 v1 bR  (fun aq => Bh N cH bX v5 v1 n aq)
def Bi (N : Nat) (v1 : ah) (v5 : Int)  : Option Bool :=
 Bh N (v1.ab.length : Int) v1.ab v5 v1 N 0
def Bj (N : Nat) (v1 : ah) (v5 : Int) (v53 : Bool)  : Option Bool :=
 bif v53 then (
 some false) else (
 Bi N v1 v5)
def Bk (N : Nat) (v1 : ah) (v5 : Int) (fE : Bool)  : Option Bool :=
 bif fE then (
 Bj N v1 v5 true) else (
(oj v1.aL 0 200).bind fun dK =>
 Bj N v1 v5 (!dK))
def Bl (N : Nat) (v1 : ah) (v5 : Int) (gD : Bool)  : Option Bool :=
 bif gD then (
 Bk N v1 v5 true) else (
(oj v1.aK 0 200).bind fun gz =>
 Bk N v1 v5 (!gz))
def sY (N : Nat) (x0 : ah) : Option Bool :=
(oj (x0.ab.length : Int) 1 600).bind fun Nh =>
 bif (!Nh) then (
 Bl N x0 (x0.ab.length : Int) true) else (
 Bl N x0 (x0.ab.length : Int) (decide (40 < (x0.ay.length : Int))))
abbrev oq (c : Cx) (R : Value → W) (r : Bool) : Prop := ∀ (g' h' : AH), Sep c g' h' [] → R (.bool r) h'
theorem agj {w0 : World} {c : Cx} {g h : AH} {E R : Value → W} {r : Bool} {N : Nat} {bR : Int} {cO : ah} {sZ : Nat} {ot ou : Value} {iR : Value → W} {iL : Int → Option Bool} {ow : AH} (M : Nd N bR cO iL = some r) (S : Sep c g h [.bx sZ [(.string cO.aQ), (.string cO.aR), (vi cO.fArgs), (vi cO.aK), (vi cO.aL), ot, ou]]) (vk : ae al.rep 4 g ot cO.ab) (vl : ae ax.rep 3 g ou cO.ay) (pD : Sub ow g) (ta : ∀ {aq : Int} {g2 h2 : AH}, iL aq = some r → Sub ow g2 → Sep c g2 h2 [.bx sZ [(.string cO.aQ), (.string cO.aR), (vi cO.fArgs), (vi cO.aK), (vi cO.aL), ot, ou]] → iR (vi aq) h2) (H : oq c R r) : GV w0 E R (vi bR) iR h := by
 unfold GV
 unfold Nd at M
 refine lE.2 ?_
 exact ta M pD S
theorem VT {w0 : World} {c : Cx} {g h : AH} {E R : Value → W} {r : Bool} {N : Nat} {bR : Int} {jq : Bool} {cO : ah} {sZ : Nat} {ot ou : Value} {iR : Value → W} {iL : Int → Option Bool} {ow : AH} (M : xz N bR jq cO iL = some r) (S : Sep c g h [.bx sZ [(.string cO.aQ), (.string cO.aR), (vi cO.fArgs), (vi cO.aK), (vi cO.aL), ot, ou]]) (vk : ae al.rep 4 g ot cO.ab) (vl : ae ax.rep 3 g ou cO.ay) (pD : Sub ow g) (ta : ∀ {aq : Int} {g2 h2 : AH}, iL aq = some r → Sub ow g2 → Sep c g2 h2 [.bx sZ [(.string cO.aQ), (.string cO.aR), (vi cO.fArgs), (vi cO.aK), (vi cO.aL), ot, ou]] → iR (vi aq) h2) (H : oq c R r) : GW w0 E R (vi bR) iR (.bool jq) h := by
 unfold GW
 unfold xz at M
 refine bE (fun hc => ?_) (fun hc => ?_)
 · have M := aY hc M
   cases M
   exact H _ _  S.bA
 · have M := aZ hc M
   exact agj M S vk vl pD ta H
theorem agk {w0 : World} {c : Cx} {g h : AH} {E R : Value → W} {r : Bool} {N : Nat} {bX : List al} {bR v5 : Int} {cO : ah} {tc : Value} {fZ sZ : Nat} {ot ou : Value} {iR : Value → W} {iL : Int → Option Bool} {ow : AH} (M : Nf N bX bR v5 cO iL = some r) (S : Sep c g h [.bx sZ [(.string cO.aQ), (.string cO.aR), (vi cO.fArgs), (vi cO.aK), (vi cO.aL), ot, ou]]) (qT : ae al.rep 4 g tc bX) (nj : g.aW fZ 0 [(vi v5)]) (vk : ae al.rep 4 g ot cO.ab) (vl : ae ax.rep 3 g ou cO.ay) (pD : Sub ow g) (ta : ∀ {aq : Int} {g2 h2 : AH}, iL aq = some r → Sub ow g2 → Sep c g2 h2 [.bx sZ [(.string cO.aQ), (.string cO.aR), (vi cO.fArgs), (vi cO.aK), (vi cO.aL), ot, ou]] → iR (vi aq) h2) (H : oq c R r) : GX w0 E R tc (vi bR) (av fZ 0) iR h := by
 unfold GX
 unfold Nf at M
 obtain ⟨iM, agl, M⟩ := bind_some M
 refine ae.idx qT agl (fun aj5 aj6 vs VU Ni rp => ?_)
 cases rp
 refine S.oc Ni rfl (by decide) ?_
 refine S.alloc (l := [(vi 0), (vi 0), (vi 0), (vi 0)]) (aa rfl (aa rfl (aa rfl (aa rfl rfl)))) (fun aj7 h S => ?_)
 refine S.c9 [(vi iM.aO), (vi iM.fA), (vi iM.fB), (vi iM.fC)] [(vi iM.aO), (vi iM.fA), (vi iM.fB), (vi iM.fC)] rfl rfl (aa rfl (aa rfl (aa rfl (aa rfl rfl)))) (Nat.le_of_ble_eq_true rfl) rfl (fun h S => ?_)
 refine bY.2 ?_
 refine S.bP 0 rfl rfl ?_
 obtain ⟨fw, agm, M⟩ := bind_some M
 refine Bc iM.aO S.sub S.ok agm (fun _ h  S1  => ?_)
 have S := S.dz S1
 refine (jd rfl).2 ?_
 refine (jd rfl).2 ?_
 refine S.alloc (l := [(.string (⟨⟨[]⟩⟩ : ByteArray)), (vi 0), (vi 0), (vi 0), (vi 0), (vi 0), (vi 0), (.bool false), (.bool false)]) (aa rfl (aa rfl (aa rfl (aa rfl (aa rfl (aa rfl (aa rfl (aa rfl (aa rfl rfl))))))))) (fun aj8 h S => ?_)
 refine S.c9 [(.string fw.1.oo), (vi fw.1.dB.e0), (vi fw.1.dB.e1), (vi fw.1.dB.e2), (vi fw.1.jj), (vi fw.1.cN.e0), (vi fw.1.cN.e1), (.bool fw.1.jk), (.bool fw.1.jA)] [(.string fw.1.oo), (vi fw.1.dB.e0), (vi fw.1.dB.e1), (vi fw.1.dB.e2), (vi fw.1.jj), (vi fw.1.cN.e0), (vi fw.1.cN.e1), (.bool fw.1.jk), (.bool fw.1.jA)] rfl rfl (aa rfl (aa rfl (aa rfl (aa rfl (aa rfl (aa rfl (aa rfl (aa rfl (aa rfl rfl))))))))) (Nat.le_of_ble_eq_true rfl) rfl (fun h S => ?_)
 refine eQ.2 ?_
 cases hc : (!fw.2)
 · have M := aZ hc M
   refine aD rfl ?_
   refine S.cK [(vi iM.aO), (vi iM.fA), (vi iM.fB), (vi iM.fC)] 1 rfl rfl rfl (by decide) ?_
   refine aD rfl ?_
   obtain ⟨FN, Nj, M⟩ := bind_some M
   refine VN Nj S.sub S.ok (fun g h aj9 S1 agn => ?_)
   have qT := ae.mono qT al.mono S1.bT
   have nj := S1.bT.aW nj
   have Ni := S1.bT.aW Ni
   have vk := ae.mono vk al.mono S1.bT
   have vl := ae.mono vl ax.mono S1.bT
   have pD := Sub.trans pD S1.bT
   have S := S.na S1
   refine aD rfl ?_
   refine (Eo (by simp)).2 ?_
   refine aD rfl ?_
   have ago : pC w0 g (.func (.func Cj) ⟨[]⟩ ⟨[(av fZ 0)]⟩) (fun a0 => xx a0 v5) := ⟨rfl, fun a0 r E K g2 h2 s1 s2 s3  m1 k1 => agh m1 s2 s3 (Sub.aW s1 nj) k1⟩
   obtain ⟨qS, Nk, M⟩ := bind_some M
   refine af7 Nk S.sub S.ok agn ago (fun _ h  S1  => ?_)
   have S := S.dz S1
   refine bW.2 ?_
   have S := S.f2
   have S := S.t1
   exact VT M S vk vl pD ta H
 · have M := aY hc M
   refine aC (by decide) ?_
   refine aC (by decide) ?_
   refine aC (by decide) ?_
   refine aC (by decide) ?_
   refine bW.2 ?_
   have S := S.f2
   have S := S.t1
   exact VT M S vk vl pD ta H
theorem agp {w0 : World} {c : Cx} {g h : AH} {E R : Value → W} {r : Bool} {N : Nat} {v1 : ah} {v5 : Int} {au : Nat} {aE aG : Value} {fZ : Nat}  (M : xA N v1 v5 = some r) (S : Sep c g h [.bx au [(.string v1.aQ), (.string v1.aR), (vi v1.fArgs), (vi v1.aK), (vi v1.aL), aE, aG]]) (aI : ae al.rep 4 g aE v1.ab) (aS : ae ax.rep 3 g aG v1.ay) (nj : g.aW fZ 0 [(vi v5)])  (H : oq c R r) : GU w0 E R (av au 0) (av fZ 0) h := by
 unfold GU
 unfold xA at M
 refine bY.2 ?_
 refine S.bP 0 rfl rfl ?_
 refine (Eo (by simp)).2 ?_
 have agq : oi w0 g (.func (.func Ck) ⟨[]⟩ ⟨[(av fZ 0)]⟩) (fun a0 => xy a0 v5) := ⟨rfl, fun a0 r E K g2 h2 s1 s2 s3  m1 k1 => agi m1 s2 s3 (Sub.aW s1 nj) k1⟩
 obtain ⟨VS, ags, M⟩ := bind_some M
 refine age ags S.sub S.ok aS agq (fun _ h  S1  => ?_)
 have S := S.dz S1
 refine eQ.2 ?_
 cases M
 exact H _ _  S.bA
theorem agt {w0 : World} {c : Cx} {g h : AH} {E R : Value → W} {r : Bool} {N : Nat} {cH : Int} {bX : List al} {v5 : Int} {v1 : ah} {bR : Int} {tc : Value} {fZ au : Nat} {aE aG : Value} {iR : Value → W} {iL : Int → Option Bool} {ow : AH} (M : Ng N cH bX v5 v1 bR iL = some r) (S : Sep c g h [.bx au [(.string v1.aQ), (.string v1.aR), (vi v1.fArgs), (vi v1.aK), (vi v1.aL), aE, aG]]) (qT : ae al.rep 4 g tc bX) (nj : g.aW fZ 0 [(vi v5)]) (aI : ae al.rep 4 g aE v1.ab) (aS : ae ax.rep 3 g aG v1.ay) (pD : Sub ow g) (ta : ∀ {aq : Int} {g2 h2 : AH}, iL aq = some r → Sub ow g2 → Sep c g2 h2 [.bx au [(.string v1.aQ), (.string v1.aR), (vi v1.fArgs), (vi v1.aK), (vi v1.aL), aE, aG]] → iR (vi aq) h2) (H : oq c R r) : Cl w0 E R (vi cH) tc (av fZ 0) (av au 0) iR (vi bR) h := by
 unfold Cl
 unfold Ng at M
 refine iI.2 ?_
 refine bE (fun hc => ?_) (fun hc => ?_)
 · have M := aY hc M
   exact agk M S qT nj aI aS pD ta H
 · have M := aZ hc M
   exact agp M S aI aS nj H
theorem agu {w0 : World} {c : Cx} {E R : Value → W} {r : Bool} {N : Nat} {cH : Int} {bX : List al} {v5 : Int} {v1 : ah} {tc : Value} {fZ au : Nat} {aE aG : Value}   (H : oq c R r) : ∀ (n : Nat) {bR : Int} {g h : AH}, Bh N cH bX v5 v1 n bR = some r → Sep c g h [.bx au [(.string v1.aQ), (.string v1.aR), (vi v1.fArgs), (vi v1.aK), (vi v1.aL), aE, aG]] → ae al.rep 4 g tc bX → g.aW fZ 0 [(vi v5)] → ae al.rep 4 g aE v1.ab → ae ax.rep 3 g aG v1.ay → gr (α := Value) (fun k a => Cl w0 E R (vi cH) tc (av fZ 0) (av au 0) k a) n (vi bR) h := by
 intro n
 induction n with
 | zero =>
  intro bR  g h M S qT nj aI aS
  unfold Bh at M; cases M
 | succ n ih =>
  intro bR  g h M S qT nj aI aS
  exact agt M S qT nj aI aS  (Sub.refl g) (fun M2 sub S2  => ih M2 S2 (ae.mono qT al.mono sub) (Sub.aW sub nj) (ae.mono aI al.mono sub) (ae.mono aS ax.mono sub) ) H
theorem agv {w0 : World} {c : Cx} {g h : AH} {E R : Value → W} {r : Bool} {N : Nat} {v1 : ah} {v5 : Int} {au : Nat} {aE aG : Value} {fZ : Nat}  (M : Bi N v1 v5 = some r) (S : Sep c g h [.bx au [(.string v1.aQ), (.string v1.aR), (vi v1.fArgs), (vi v1.aK), (vi v1.aL), aE, aG], .bx fZ [(vi v5)]]) (aI : ae al.rep 4 g aE v1.ab) (aS : ae ax.rep 3 g aG v1.ay)  (H : oq c R r) : GY w0 E R (av au 0) (av fZ 0) h := by
 unfold GY
 unfold Bi at M
 refine bY.2 ?_
 refine S.bP 0 rfl rfl ?_
 refine aI.len ?_
 have S := S.f1
 obtain ⟨g, sg, S, r_9⟩ := S.pA
 have aI := ae.mono aI al.mono sg
 have aS := ae.mono aS ax.mono sg
 exact ⟨N, agu  H _ M S aI r_9 aI aS ⟩
theorem VV {w0 : World} {c : Cx} {g h : AH} {E R : Value → W} {r : Bool} {N : Nat} {v1 : ah} {v5 : Int} {v53 : Bool} {au : Nat} {aE aG : Value} {fZ : Nat}  (M : Bj N v1 v5 v53 = some r) (S : Sep c g h [.bx au [(.string v1.aQ), (.string v1.aR), (vi v1.fArgs), (vi v1.aK), (vi v1.aL), aE, aG], .bx fZ [(vi v5)]]) (aI : ae al.rep 4 g aE v1.ab) (aS : ae ax.rep 3 g aG v1.ay)  (H : oq c R r) : GZ w0 E R (av au 0) (av fZ 0) (.bool v53) h := by
 unfold GZ
 unfold Bj at M
 refine bE (fun hc => ?_) (fun hc => ?_)
 · have M := aY hc M
   cases M
   exact H _ _  S.bA
 · have M := aZ hc M
   exact agv M S aI aS H
theorem VW {w0 : World} {c : Cx} {g h : AH} {E R : Value → W} {r : Bool} {N : Nat} {v1 : ah} {v5 : Int} {fE : Bool} {au : Nat} {aE aG : Value} {fZ : Nat}  (M : Bk N v1 v5 fE = some r) (S : Sep c g h [.bx au [(.string v1.aQ), (.string v1.aR), (vi v1.fArgs), (vi v1.aK), (vi v1.aL), aE, aG], .bx fZ [(vi v5)]]) (aI : ae al.rep 4 g aE v1.ab) (aS : ae ax.rep 3 g aG v1.ay)  (H : oq c R r) : G0 w0 E R (av au 0) (av fZ 0) (.bool fE) h := by
 unfold G0
 unfold Bk at M
 cases hc : fE
 · have M := aZ hc M
   refine aD rfl ?_
   refine bY.2 ?_
   refine aD rfl ?_
   refine S.bP 0 rfl rfl ?_
   refine aD rfl ?_
   obtain ⟨dK, mo, M⟩ := bind_some M
   refine ve mo S.sub S.ok (fun _ h  S1  => ?_)
   have S := S.dz S1
   refine aD rfl ?_
   refine eQ.2 ?_
   refine bW.2 ?_
   exact VV M S aI aS H
 · have M := aY hc M
   refine aC (by decide) ?_
   refine aC (by decide) ?_
   refine aC (by decide) ?_
   refine aC (by decide) ?_
   refine bW.2 ?_
   exact VV M S aI aS H
theorem VX {w0 : World} {c : Cx} {g h : AH} {E R : Value → W} {r : Bool} {N : Nat} {v1 : ah} {v5 : Int} {gD : Bool} {au : Nat} {aE aG : Value} {fZ : Nat}  (M : Bl N v1 v5 gD = some r) (S : Sep c g h [.bx au [(.string v1.aQ), (.string v1.aR), (vi v1.fArgs), (vi v1.aK), (vi v1.aL), aE, aG], .bx fZ [(vi v5)]]) (aI : ae al.rep 4 g aE v1.ab) (aS : ae ax.rep 3 g aG v1.ay)  (H : oq c R r) : G1 w0 E R (av au 0) (av fZ 0) (.bool gD) h := by
 unfold G1
 unfold Bl at M
 cases hc : gD
 · have M := aZ hc M
   refine aD rfl ?_
   refine bY.2 ?_
   refine aD rfl ?_
   refine S.bP 0 rfl rfl ?_
   refine aD rfl ?_
   obtain ⟨gz, om, M⟩ := bind_some M
   refine ve om S.sub S.ok (fun _ h  S1  => ?_)
   have S := S.dz S1
   refine aD rfl ?_
   refine eQ.2 ?_
   refine bW.2 ?_
   exact VW M S aI aS H
 · have M := aY hc M
   refine aC (by decide) ?_
   refine aC (by decide) ?_
   refine aC (by decide) ?_
   refine aC (by decide) ?_
   refine bW.2 ?_
   exact VW M S aI aS H
theorem FO {w0 : World} {g h : AH} {Q : CR → AH → Prop} {r : Bool} {N : Nat} {x0 : ah} {ct cu : Value} (M : sY N x0 = some r) (sg : Sub g h) (ok : h.Ok) (bU : ae al.rep 4 g ct x0.ab) (cy : ae ax.rep 3 g cu x0.ay) (H : oq ⟨g, h, []⟩ (fun v => Q (.ret v)) r) : WF PP w0 vD [(.agg ⟨[(.string x0.aQ), (.string x0.aR), (vi x0.fArgs), (vi x0.aK), (vi x0.aL), ct, cu]⟩)] h Q := by
 refine X1 _ ?_
 have S := Sep.start sg ok
 unfold Pd
 unfold sY at M
 refine S.box [(.string x0.aQ), (.string x0.aR), (vi x0.fArgs), (vi x0.aK), (vi x0.aL), ct, cu] rfl (aa rfl (aa rfl (aa rfl (aa rfl (aa rfl (aa bU.one (aa cy.one rfl))))))) (fun jT h S => ?_)
 refine bY.2 ?_
 refine S.bP 0 rfl rfl ?_
 refine bU.len ?_
 refine S.alloc (l := [(vi 0)]) (aa rfl rfl) (fun AY h S => ?_)
 refine S.c9 [(vi (x0.ab.length : Int))] [(vi (x0.ab.length : Int))] rfl rfl (aa rfl rfl) (Nat.le_of_ble_eq_true rfl) rfl (fun h S => ?_)
 refine S.bP 0 rfl rfl ?_
 obtain ⟨Nh, agw, M⟩ := bind_some M
 refine ve agw S.sub S.ok (fun _ h  S1  => ?_)
 have S := S.dz S1
 refine eQ.2 ?_
 cases hc : (!Nh)
 · have M := aZ hc M
   refine aD rfl ?_
   refine bY.2 ?_
   refine aD rfl ?_
   refine S.bP 1 rfl rfl ?_
   refine aD rfl ?_
   refine cy.len ?_
   refine aD rfl ?_
   refine qC.2 ?_
   refine bW.2 ?_
   have S := S.f1
   exact VX M S bU cy H
 · have M := aY hc M
   refine aC (by decide) ?_
   refine aC (by decide) ?_
   refine aC (by decide) ?_
   refine aC (by decide) ?_
   refine bW.2 ?_
   have S := S.f1
   exact VX M S bU cy H
def qU (x0 : Int) (x1 : Int) (x2 : Int) : Option Bool :=
 bif (decide (x1 ≤ x0)) then (
 some (decide (x0 ≤ x2))) else (
 some false)
def FP (v1 : cv)  : Option (cv × Bool) :=
 some ((cv.mk (dF.mk 0 0 0) 0 (dU.mk 0 0) false), false)
def xB (v1 : cv) (x0 : Int) (vH : Bool)  : Option (cv × Bool) :=
 bif vH then (
 some ((cv.mk (dF.mk 1 1 1) 1 (dU.mk 2 3) false), true)) else (
 bif (decide (x0 = 17)) then (
 some ((cv.mk (dF.mk 1 2 5) 1 (dU.mk 2 0) true), true)) else (
 bif (decide (x0 = 18)) then (
 some ((cv.mk (dF.mk 5 1 0) 0 (dU.mk 2 0) false), true)) else (
 bif (decide (x0 = 19)) then (
 some ((cv.mk (dF.mk 6 1 0) 0 (dU.mk 2 0) false), true)) else (
 bif (decide (x0 = 20)) then (
 some ((cv.mk (dF.mk 7 2 8) 1 (dU.mk 2 0) true), true)) else (
 bif (decide (x0 = 21)) then (
 some ((cv.mk (dF.mk 1 9 4) 1 (dU.mk 0 0) true), true)) else (
 bif (decide (x0 = 22)) then (
 some ((cv.mk (dF.mk 1 10 0) 0 (dU.mk 1 0) true), true)) else (
 bif (decide (x0 = 23)) then (
 some ((cv.mk (dF.mk 2 0 0) 0 (dU.mk 1 0) true), true)) else (
 bif (decide (x0 = 24)) then (
 some ((cv.mk (dF.mk 11 0 0) 0 (dU.mk 0 0) false), true)) else (
 bif (decide (x0 = 25)) then (
 some ((cv.mk (dF.mk 1 11 0) 0 (dU.mk 1 0) false), true)) else (
 bif (decide (x0 = 26)) then (
 some ((cv.mk (dF.mk 12 0 0) 0 (dU.mk 0 0) true), true)) else (
 bif (decide (x0 = 27)) then (
 some ((cv.mk (dF.mk 0 0 0) 0 (dU.mk 0 0) true), true)) else (
 bif (decide (x0 = 28)) then (
 some ((cv.mk (dF.mk 2 0 0) 0 (dU.mk 1 0) false), true)) else (
 bif (decide (x0 = 29)) then (
 some ((cv.mk (dF.mk 1 0 0) 0 (dU.mk 1 0) false), true)) else (
 bif (decide (x0 = 30)) then (
 some ((cv.mk (dF.mk 1 0 0) 0 (dU.mk 1 0) true), true)) else (
 bif (decide (x0 = 31)) then (
 some ((cv.mk (dF.mk 0 0 0) 0 (dU.mk 0 0) false), true)) else (
 bif (decide (x0 = 32)) then (
 some ((cv.mk (dF.mk 1 11 0) 0 (dU.mk 1 0) true), true)) else (
 bif (decide (x0 = 33)) then (
 some ((cv.mk (dF.mk 1 13 0) 1 (dU.mk 0 0) false), true)) else (
 bif (decide (x0 = 34)) then (
 some ((cv.mk (dF.mk 13 1 0) 0 (dU.mk 2 0) false), true)) else (
 FP v1)))))))))))))))))))
def td (v1 : cv) (x0 : Int) (vK : Bool)  : Option (cv × Bool) :=
 bif vK then (
 some ((cv.mk (dF.mk 1 1 1) 1 (dU.mk 2 3) true), true)) else (
 bif (decide (x0 = 12)) then (
 xB v1 x0 (decide (x0 = 12))) else (
 bif (decide (x0 = 13)) then (
 xB v1 x0 (decide (x0 = 13))) else (
 xB v1 x0 (decide (x0 = 14)))))
def vm (v1 : cv) (x0 : Int) (vM : Bool)  : Option (cv × Bool) :=
 bif vM then (
 some ((cv.mk (dF.mk 1 1 0) 1 (dU.mk 2 0) false), true)) else (
 bif (decide (x0 = 6)) then (
 td v1 x0 (decide (x0 = 6))) else (
 bif (decide (x0 = 7)) then (
 td v1 x0 (decide (x0 = 7))) else (
 bif (decide (x0 = 8)) then (
 td v1 x0 (decide (x0 = 8))) else (
 bif (decide (x0 = 9)) then (
 td v1 x0 (decide (x0 = 9))) else (
 td v1 x0 (decide (x0 = 10)))))))
def Bm (v1 : cv) (x0 : Int) (cz : Bool)  : Option (cv × Bool) :=
 bif cz then (
 some ((cv.mk (dF.mk 1 0 0) 1 (dU.mk 0 0) false), true)) else (
 bif (decide (x0 = 4)) then (
 vm v1 x0 (decide (x0 = 4))) else (
 bif (decide (x0 = 11)) then (
 vm v1 x0 (decide (x0 = 11))) else (
 bif (decide (x0 = 15)) then (
 vm v1 x0 (decide (x0 = 15))) else (
 vm v1 x0 (decide (x0 = 16))))))
def xC (x0 : Int) : Option (cv × Bool) :=
 bif (decide (x0 = 1)) then (
 some ((cv.mk (dF.mk 1 3 0) 1 (dU.mk 0 0) false), true)) else (
 bif (decide (x0 = 2)) then (
 some ((cv.mk (dF.mk 1 4 0) 1 (dU.mk 0 0) false), true)) else (
 bif (decide (x0 = 3)) then (
 Bm (cv.mk (dF.mk 0 0 0) 0 (dU.mk 0 0) false) x0 (decide (x0 = 3))) else (
 Bm (cv.mk (dF.mk 0 0 0) 0 (dU.mk 0 0) false) x0 (decide (x0 = 5)))))
abbrev xD (c : Cx) (R : Value → W) (r : cv × Bool) : Prop := ∀ (g' h' : AH), Sep c g' h' [] → R (.tuple ⟨[(.agg ⟨[(vi r.1.gA.e0), (vi r.1.gA.e1), (vi r.1.gA.e2), (vi r.1.tf), (vi r.1.kv.e0), (vi r.1.kv.e1), (.bool r.1.pE)]⟩), (.bool r.2)]⟩) h'
theorem agx {w0 : World} {c : Cx} {g h : AH} {E R : Value → W} {r : cv × Bool} {v1 : cv} {au : Nat}  (M : FP v1 = some r) (S : Sep c g h [.bx au [(vi v1.gA.e0), (vi v1.gA.e1), (vi v1.gA.e2), (vi v1.tf), (vi v1.kv.e0), (vi v1.kv.e1), (.bool v1.pE)]])   (H : xD c R r) : Hw w0 E R (av au 0) h := by
 unfold Hw
 unfold FP at M
 refine (fW (l := [(vi 0), (vi 0), (vi 0), (vi 0), (vi 0), (vi 0), (.bool false)]) rfl).2 ?_
 refine S.c9 [(vi 0), (vi 0), (vi 0), (vi 0), (vi 0), (vi 0), (.bool false)] [(vi 0), (vi 0), (vi 0), (vi 0), (vi 0), (vi 0), (.bool false)] rfl rfl (aa rfl (aa rfl (aa rfl (aa rfl (aa rfl (aa rfl (aa rfl rfl))))))) (Nat.le_of_ble_eq_true rfl) rfl (fun h S => ?_)
 refine S.cK [(vi 0), (vi 0), (vi 0), (vi 0), (vi 0), (vi 0), (.bool false)] 0 rfl rfl rfl (by decide) ?_
 cases M
 exact H _ _  S.bA
theorem Nl {w0 : World} {c : Cx} {g h : AH} {E R : Value → W} {r : cv × Bool} {v1 : cv} {x0 : Int} {vH : Bool} {au : Nat}  (M : xB v1 x0 vH = some r) (S : Sep c g h [.bx au [(vi v1.gA.e0), (vi v1.gA.e1), (vi v1.gA.e2), (vi v1.tf), (vi v1.kv.e0), (vi v1.kv.e1), (.bool v1.pE)]])   (H : xD c R r) : ye w0 E R (av au 0) (vi x0) (.bool vH) h := by
 unfold ye
 unfold xB at M
 refine bE (fun hc => ?_) (fun hc => ?_)
 · have M := aY hc M
   refine dv [(vi 1), (vi 1), (vi 1)] (by simp only [cC, bh, bj, bn, bo,  List.length_cons, List.length_nil, Nat.reduceAdd, Nat.zero_add, decide_true, Bool.and_self]) (by simp only [List.flatMap_cons, List.flatMap_nil, bh, bj, bn, bo,  List.cons_append, List.nil_append, List.append_nil]) ?_
   refine dv [(vi 2), (vi 3)] (by simp only [cC, bh, bj, bn, bo,  List.length_cons, List.length_nil, Nat.reduceAdd, Nat.zero_add, decide_true, Bool.and_self]) (by simp only [List.flatMap_cons, List.flatMap_nil, bh, bj, bn, bo,  List.cons_append, List.nil_append, List.append_nil]) ?_
   refine (fW (l := [(vi 1), (vi 1), (vi 1), (vi 1), (vi 2), (vi 3), (.bool false)]) (cq (m := [(vi 1), (vi 1), (vi 1)]) (l2 := [(vi 1), (vi 1), (vi 1), (vi 0), (vi 0), (vi 0), (.bool false)]) rfl rfl (Nat.le_of_ble_eq_true rfl) rfl (cq (m := [(vi 1)]) (l2 := [(vi 1), (vi 1), (vi 1), (vi 1), (vi 0), (vi 0), (.bool false)]) rfl rfl (Nat.le_of_ble_eq_true rfl) rfl (cq (m := [(vi 2), (vi 3)]) (l2 := [(vi 1), (vi 1), (vi 1), (vi 1), (vi 2), (vi 3), (.bool false)]) rfl rfl (Nat.le_of_ble_eq_true rfl) rfl rfl)))).2 ?_
   refine S.c9 [(vi 1), (vi 1), (vi 1), (vi 1), (vi 2), (vi 3), (.bool false)] [(vi 1), (vi 1), (vi 1), (vi 1), (vi 2), (vi 3), (.bool false)] rfl rfl (aa rfl (aa rfl (aa rfl (aa rfl (aa rfl (aa rfl (aa rfl rfl))))))) (Nat.le_of_ble_eq_true rfl) rfl (fun h S => ?_)
   refine S.cK [(vi 1), (vi 1), (vi 1), (vi 1), (vi 2), (vi 3), (.bool false)] 0 rfl rfl rfl (by decide) ?_
   cases M
   exact H _ _  S.bA
 · have M := aZ hc M
   refine c7.2 ?_
   refine bE (fun hc => ?_) (fun hc => ?_)
   · have M := aY hc M
     refine dv [(vi 1), (vi 2), (vi 5)] (by simp only [cC, bh, bj, bn, bo,  List.length_cons, List.length_nil, Nat.reduceAdd, Nat.zero_add, decide_true, Bool.and_self]) (by simp only [List.flatMap_cons, List.flatMap_nil, bh, bj, bn, bo,  List.cons_append, List.nil_append, List.append_nil]) ?_
     refine dv [(vi 2), (vi 0)] (by simp only [cC, bh, bj, bn, bo,  List.length_cons, List.length_nil, Nat.reduceAdd, Nat.zero_add, decide_true, Bool.and_self]) (by simp only [List.flatMap_cons, List.flatMap_nil, bh, bj, bn, bo,  List.cons_append, List.nil_append, List.append_nil]) ?_
     refine dv [(vi 1), (vi 2), (vi 5), (vi 1), (vi 2), (vi 0), (.bool true)] (by simp only [cC, bh, bj, bn, bo,  List.length_cons, List.length_nil, Nat.reduceAdd, Nat.zero_add, decide_true, Bool.and_self]) (by simp only [List.flatMap_cons, List.flatMap_nil, bh, bj, bn, bo,  List.cons_append, List.nil_append, List.append_nil]) ?_
     refine S.c9 [(vi 1), (vi 2), (vi 5), (vi 1), (vi 2), (vi 0), (.bool true)] [(vi 1), (vi 2), (vi 5), (vi 1), (vi 2), (vi 0), (.bool true)] rfl rfl (aa rfl (aa rfl (aa rfl (aa rfl (aa rfl (aa rfl (aa rfl rfl))))))) (Nat.le_of_ble_eq_true rfl) rfl (fun h S => ?_)
     refine S.cK [(vi 1), (vi 2), (vi 5), (vi 1), (vi 2), (vi 0), (.bool true)] 0 rfl rfl rfl (by decide) ?_
     cases M
     exact H _ _  S.bA
   · have M := aZ hc M
     refine c7.2 ?_
     refine bE (fun hc => ?_) (fun hc => ?_)
     · have M := aY hc M
       refine dv [(vi 5), (vi 1), (vi 0)] (by simp only [cC, bh, bj, bn, bo,  List.length_cons, List.length_nil, Nat.reduceAdd, Nat.zero_add, decide_true, Bool.and_self]) (by simp only [List.flatMap_cons, List.flatMap_nil, bh, bj, bn, bo,  List.cons_append, List.nil_append, List.append_nil]) ?_
       refine dv [(vi 2), (vi 0)] (by simp only [cC, bh, bj, bn, bo,  List.length_cons, List.length_nil, Nat.reduceAdd, Nat.zero_add, decide_true, Bool.and_self]) (by simp only [List.flatMap_cons, List.flatMap_nil, bh, bj, bn, bo,  List.cons_append, List.nil_append, List.append_nil]) ?_
       refine (fW (l := [(vi 5), (vi 1), (vi 0), (vi 0), (vi 2), (vi 0), (.bool false)]) (cq (m := [(vi 5), (vi 1), (vi 0)]) (l2 := [(vi 5), (vi 1), (vi 0), (vi 0), (vi 0), (vi 0), (.bool false)]) rfl rfl (Nat.le_of_ble_eq_true rfl) rfl (cq (m := [(vi 2), (vi 0)]) (l2 := [(vi 5), (vi 1), (vi 0), (vi 0), (vi 2), (vi 0), (.bool false)]) rfl rfl (Nat.le_of_ble_eq_true rfl) rfl rfl))).2 ?_
       refine S.c9 [(vi 5), (vi 1), (vi 0), (vi 0), (vi 2), (vi 0), (.bool false)] [(vi 5), (vi 1), (vi 0), (vi 0), (vi 2), (vi 0), (.bool false)] rfl rfl (aa rfl (aa rfl (aa rfl (aa rfl (aa rfl (aa rfl (aa rfl rfl))))))) (Nat.le_of_ble_eq_true rfl) rfl (fun h S => ?_)
       refine S.cK [(vi 5), (vi 1), (vi 0), (vi 0), (vi 2), (vi 0), (.bool false)] 0 rfl rfl rfl (by decide) ?_
       cases M
       exact H _ _  S.bA
     · have M := aZ hc M
       refine c7.2 ?_
       refine bE (fun hc => ?_) (fun hc => ?_)
       · have M := aY hc M
         refine dv [(vi 6), (vi 1), (vi 0)] (by simp only [cC, bh, bj, bn, bo,  List.length_cons, List.length_nil, Nat.reduceAdd, Nat.zero_add, decide_true, Bool.and_self]) (by simp only [List.flatMap_cons, List.flatMap_nil, bh, bj, bn, bo,  List.cons_append, List.nil_append, List.append_nil]) ?_
         refine dv [(vi 2), (vi 0)] (by simp only [cC, bh, bj, bn, bo,  List.length_cons, List.length_nil, Nat.reduceAdd, Nat.zero_add, decide_true, Bool.and_self]) (by simp only [List.flatMap_cons, List.flatMap_nil, bh, bj, bn, bo,  List.cons_append, List.nil_append, List.append_nil]) ?_
         refine (fW (l := [(vi 6), (vi 1), (vi 0), (vi 0), (vi 2), (vi 0), (.bool false)]) (cq (m := [(vi 6), (vi 1), (vi 0)]) (l2 := [(vi 6), (vi 1), (vi 0), (vi 0), (vi 0), (vi 0), (.bool false)]) rfl rfl (Nat.le_of_ble_eq_true rfl) rfl (cq (m := [(vi 2), (vi 0)]) (l2 := [(vi 6), (vi 1), (vi 0), (vi 0), (vi 2), (vi 0), (.bool false)]) rfl rfl (Nat.le_of_ble_eq_true rfl) rfl rfl))).2 ?_
         refine S.c9 [(vi 6), (vi 1), (vi 0), (vi 0), (vi 2), (vi 0), (.bool false)] [(vi 6), (vi 1), (vi 0), (vi 0), (vi 2), (vi 0), (.bool false)] rfl rfl (aa rfl (aa rfl (aa rfl (aa rfl (aa rfl (aa rfl (aa rfl rfl))))))) (Nat.le_of_ble_eq_true rfl) rfl (fun h S => ?_)
         refine S.cK [(vi 6), (vi 1), (vi 0), (vi 0), (vi 2), (vi 0), (.bool false)] 0 rfl rfl rfl (by decide) ?_
         cases M
         exact H _ _  S.bA
       · have M := aZ hc M
         refine c7.2 ?_
         refine bE (fun hc => ?_) (fun hc => ?_)
         · have M := aY hc M
           refine dv [(vi 7), (vi 2), (vi 8)] (by simp only [cC, bh, bj, bn, bo,  List.length_cons, List.length_nil, Nat.reduceAdd, Nat.zero_add, decide_true, Bool.and_self]) (by simp only [List.flatMap_cons, List.flatMap_nil, bh, bj, bn, bo,  List.cons_append, List.nil_append, List.append_nil]) ?_
           refine dv [(vi 2), (vi 0)] (by simp only [cC, bh, bj, bn, bo,  List.length_cons, List.length_nil, Nat.reduceAdd, Nat.zero_add, decide_true, Bool.and_self]) (by simp only [List.flatMap_cons, List.flatMap_nil, bh, bj, bn, bo,  List.cons_append, List.nil_append, List.append_nil]) ?_
           refine dv [(vi 7), (vi 2), (vi 8), (vi 1), (vi 2), (vi 0), (.bool true)] (by simp only [cC, bh, bj, bn, bo,  List.length_cons, List.length_nil, Nat.reduceAdd, Nat.zero_add, decide_true, Bool.and_self]) (by simp only [List.flatMap_cons, List.flatMap_nil, bh, bj, bn, bo,  List.cons_append, List.nil_append, List.append_nil]) ?_
           refine S.c9 [(vi 7), (vi 2), (vi 8), (vi 1), (vi 2), (vi 0), (.bool true)] [(vi 7), (vi 2), (vi 8), (vi 1), (vi 2), (vi 0), (.bool true)] rfl rfl (aa rfl (aa rfl (aa rfl (aa rfl (aa rfl (aa rfl (aa rfl rfl))))))) (Nat.le_of_ble_eq_true rfl) rfl (fun h S => ?_)
           refine S.cK [(vi 7), (vi 2), (vi 8), (vi 1), (vi 2), (vi 0), (.bool true)] 0 rfl rfl rfl (by decide) ?_
           cases M
           exact H _ _  S.bA
         · have M := aZ hc M
           refine c7.2 ?_
           refine bE (fun hc => ?_) (fun hc => ?_)
           · have M := aY hc M
             refine dv [(vi 1), (vi 9), (vi 4)] (by simp only [cC, bh, bj, bn, bo,  List.length_cons, List.length_nil, Nat.reduceAdd, Nat.zero_add, decide_true, Bool.and_self]) (by simp only [List.flatMap_cons, List.flatMap_nil, bh, bj, bn, bo,  List.cons_append, List.nil_append, List.append_nil]) ?_
             refine (fW (l := [(vi 1), (vi 9), (vi 4), (vi 1), (vi 0), (vi 0), (.bool true)]) (cq (m := [(vi 1), (vi 9), (vi 4)]) (l2 := [(vi 1), (vi 9), (vi 4), (vi 0), (vi 0), (vi 0), (.bool false)]) rfl rfl (Nat.le_of_ble_eq_true rfl) rfl (cq (m := [(vi 1)]) (l2 := [(vi 1), (vi 9), (vi 4), (vi 1), (vi 0), (vi 0), (.bool false)]) rfl rfl (Nat.le_of_ble_eq_true rfl) rfl (cq (m := [(.bool true)]) (l2 := [(vi 1), (vi 9), (vi 4), (vi 1), (vi 0), (vi 0), (.bool true)]) rfl rfl (Nat.le_of_ble_eq_true rfl) rfl rfl)))).2 ?_
             refine S.c9 [(vi 1), (vi 9), (vi 4), (vi 1), (vi 0), (vi 0), (.bool true)] [(vi 1), (vi 9), (vi 4), (vi 1), (vi 0), (vi 0), (.bool true)] rfl rfl (aa rfl (aa rfl (aa rfl (aa rfl (aa rfl (aa rfl (aa rfl rfl))))))) (Nat.le_of_ble_eq_true rfl) rfl (fun h S => ?_)
             refine S.cK [(vi 1), (vi 9), (vi 4), (vi 1), (vi 0), (vi 0), (.bool true)] 0 rfl rfl rfl (by decide) ?_
             cases M
             exact H _ _  S.bA
           · have M := aZ hc M
             refine c7.2 ?_
             refine bE (fun hc => ?_) (fun hc => ?_)
             · have M := aY hc M
               refine dv [(vi 1), (vi 10), (vi 0)] (by simp only [cC, bh, bj, bn, bo,  List.length_cons, List.length_nil, Nat.reduceAdd, Nat.zero_add, decide_true, Bool.and_self]) (by simp only [List.flatMap_cons, List.flatMap_nil, bh, bj, bn, bo,  List.cons_append, List.nil_append, List.append_nil]) ?_
               refine dv [(vi 1), (vi 0)] (by simp only [cC, bh, bj, bn, bo,  List.length_cons, List.length_nil, Nat.reduceAdd, Nat.zero_add, decide_true, Bool.and_self]) (by simp only [List.flatMap_cons, List.flatMap_nil, bh, bj, bn, bo,  List.cons_append, List.nil_append, List.append_nil]) ?_
               refine (fW (l := [(vi 1), (vi 10), (vi 0), (vi 0), (vi 1), (vi 0), (.bool true)]) (cq (m := [(vi 1), (vi 10), (vi 0)]) (l2 := [(vi 1), (vi 10), (vi 0), (vi 0), (vi 0), (vi 0), (.bool false)]) rfl rfl (Nat.le_of_ble_eq_true rfl) rfl (cq (m := [(vi 1), (vi 0)]) (l2 := [(vi 1), (vi 10), (vi 0), (vi 0), (vi 1), (vi 0), (.bool false)]) rfl rfl (Nat.le_of_ble_eq_true rfl) rfl (cq (m := [(.bool true)]) (l2 := [(vi 1), (vi 10), (vi 0), (vi 0), (vi 1), (vi 0), (.bool true)]) rfl rfl (Nat.le_of_ble_eq_true rfl) rfl rfl)))).2 ?_
               refine S.c9 [(vi 1), (vi 10), (vi 0), (vi 0), (vi 1), (vi 0), (.bool true)] [(vi 1), (vi 10), (vi 0), (vi 0), (vi 1), (vi 0), (.bool true)] rfl rfl (aa rfl (aa rfl (aa rfl (aa rfl (aa rfl (aa rfl (aa rfl rfl))))))) (Nat.le_of_ble_eq_true rfl) rfl (fun h S => ?_)
               refine S.cK [(vi 1), (vi 10), (vi 0), (vi 0), (vi 1), (vi 0), (.bool true)] 0 rfl rfl rfl (by decide) ?_
               cases M
               exact H _ _  S.bA
             · have M := aZ hc M
               refine c7.2 ?_
               refine bE (fun hc => ?_) (fun hc => ?_)
               · have M := aY hc M
                 refine dv [(vi 2), (vi 0), (vi 0)] (by simp only [cC, bh, bj, bn, bo,  List.length_cons, List.length_nil, Nat.reduceAdd, Nat.zero_add, decide_true, Bool.and_self]) (by simp only [List.flatMap_cons, List.flatMap_nil, bh, bj, bn, bo,  List.cons_append, List.nil_append, List.append_nil]) ?_
                 refine dv [(vi 1), (vi 0)] (by simp only [cC, bh, bj, bn, bo,  List.length_cons, List.length_nil, Nat.reduceAdd, Nat.zero_add, decide_true, Bool.and_self]) (by simp only [List.flatMap_cons, List.flatMap_nil, bh, bj, bn, bo,  List.cons_append, List.nil_append, List.append_nil]) ?_
                 refine (fW (l := [(vi 2), (vi 0), (vi 0), (vi 0), (vi 1), (vi 0), (.bool true)]) (cq (m := [(vi 2), (vi 0), (vi 0)]) (l2 := [(vi 2), (vi 0), (vi 0), (vi 0), (vi 0), (vi 0), (.bool false)]) rfl rfl (Nat.le_of_ble_eq_true rfl) rfl (cq (m := [(vi 1), (vi 0)]) (l2 := [(vi 2), (vi 0), (vi 0), (vi 0), (vi 1), (vi 0), (.bool false)]) rfl rfl (Nat.le_of_ble_eq_true rfl) rfl (cq (m := [(.bool true)]) (l2 := [(vi 2), (vi 0), (vi 0), (vi 0), (vi 1), (vi 0), (.bool true)]) rfl rfl (Nat.le_of_ble_eq_true rfl) rfl rfl)))).2 ?_
                 refine S.c9 [(vi 2), (vi 0), (vi 0), (vi 0), (vi 1), (vi 0), (.bool true)] [(vi 2), (vi 0), (vi 0), (vi 0), (vi 1), (vi 0), (.bool true)] rfl rfl (aa rfl (aa rfl (aa rfl (aa rfl (aa rfl (aa rfl (aa rfl rfl))))))) (Nat.le_of_ble_eq_true rfl) rfl (fun h S => ?_)
                 refine S.cK [(vi 2), (vi 0), (vi 0), (vi 0), (vi 1), (vi 0), (.bool true)] 0 rfl rfl rfl (by decide) ?_
                 cases M
                 exact H _ _  S.bA
               · have M := aZ hc M
                 refine c7.2 ?_
                 refine bE (fun hc => ?_) (fun hc => ?_)
                 · have M := aY hc M
                   refine dv [(vi 11), (vi 0), (vi 0)] (by simp only [cC, bh, bj, bn, bo,  List.length_cons, List.length_nil, Nat.reduceAdd, Nat.zero_add, decide_true, Bool.and_self]) (by simp only [List.flatMap_cons, List.flatMap_nil, bh, bj, bn, bo,  List.cons_append, List.nil_append, List.append_nil]) ?_
                   refine (fW (l := [(vi 11), (vi 0), (vi 0), (vi 0), (vi 0), (vi 0), (.bool false)]) (cq (m := [(vi 11), (vi 0), (vi 0)]) (l2 := [(vi 11), (vi 0), (vi 0), (vi 0), (vi 0), (vi 0), (.bool false)]) rfl rfl (Nat.le_of_ble_eq_true rfl) rfl rfl)).2 ?_
                   refine S.c9 [(vi 11), (vi 0), (vi 0), (vi 0), (vi 0), (vi 0), (.bool false)] [(vi 11), (vi 0), (vi 0), (vi 0), (vi 0), (vi 0), (.bool false)] rfl rfl (aa rfl (aa rfl (aa rfl (aa rfl (aa rfl (aa rfl (aa rfl rfl))))))) (Nat.le_of_ble_eq_true rfl) rfl (fun h S => ?_)
                   refine S.cK [(vi 11), (vi 0), (vi 0), (vi 0), (vi 0), (vi 0), (.bool false)] 0 rfl rfl rfl (by decide) ?_
                   cases M
                   exact H _ _  S.bA
                 · have M := aZ hc M
                   refine c7.2 ?_
                   refine bE (fun hc => ?_) (fun hc => ?_)
                   · have M := aY hc M
                     refine dv [(vi 1), (vi 11), (vi 0)] (by simp only [cC, bh, bj, bn, bo,  List.length_cons, List.length_nil, Nat.reduceAdd, Nat.zero_add, decide_true, Bool.and_self]) (by simp only [List.flatMap_cons, List.flatMap_nil, bh, bj, bn, bo,  List.cons_append, List.nil_append, List.append_nil]) ?_
                     refine dv [(vi 1), (vi 0)] (by simp only [cC, bh, bj, bn, bo,  List.length_cons, List.length_nil, Nat.reduceAdd, Nat.zero_add, decide_true, Bool.and_self]) (by simp only [List.flatMap_cons, List.flatMap_nil, bh, bj, bn, bo,  List.cons_append, List.nil_append, List.append_nil]) ?_
                     refine (fW (l := [(vi 1), (vi 11), (vi 0), (vi 0), (vi 1), (vi 0), (.bool false)]) (cq (m := [(vi 1), (vi 11), (vi 0)]) (l2 := [(vi 1), (vi 11), (vi 0), (vi 0), (vi 0), (vi 0), (.bool false)]) rfl rfl (Nat.le_of_ble_eq_true rfl) rfl (cq (m := [(vi 1), (vi 0)]) (l2 := [(vi 1), (vi 11), (vi 0), (vi 0), (vi 1), (vi 0), (.bool false)]) rfl rfl (Nat.le_of_ble_eq_true rfl) rfl rfl))).2 ?_
                     refine S.c9 [(vi 1), (vi 11), (vi 0), (vi 0), (vi 1), (vi 0), (.bool false)] [(vi 1), (vi 11), (vi 0), (vi 0), (vi 1), (vi 0), (.bool false)] rfl rfl (aa rfl (aa rfl (aa rfl (aa rfl (aa rfl (aa rfl (aa rfl rfl))))))) (Nat.le_of_ble_eq_true rfl) rfl (fun h S => ?_)
                     refine S.cK [(vi 1), (vi 11), (vi 0), (vi 0), (vi 1), (vi 0), (.bool false)] 0 rfl rfl rfl (by decide) ?_
                     cases M
                     exact H _ _  S.bA
                   · have M := aZ hc M
                     refine c7.2 ?_
                     refine bE (fun hc => ?_) (fun hc => ?_)
                     · have M := aY hc M
                       refine dv [(vi 12), (vi 0), (vi 0)] (by simp only [cC, bh, bj, bn, bo,  List.length_cons, List.length_nil, Nat.reduceAdd, Nat.zero_add, decide_true, Bool.and_self]) (by simp only [List.flatMap_cons, List.flatMap_nil, bh, bj, bn, bo,  List.cons_append, List.nil_append, List.append_nil]) ?_
                       refine (fW (l := [(vi 12), (vi 0), (vi 0), (vi 0), (vi 0), (vi 0), (.bool true)]) (cq (m := [(vi 12), (vi 0), (vi 0)]) (l2 := [(vi 12), (vi 0), (vi 0), (vi 0), (vi 0), (vi 0), (.bool false)]) rfl rfl (Nat.le_of_ble_eq_true rfl) rfl (cq (m := [(.bool true)]) (l2 := [(vi 12), (vi 0), (vi 0), (vi 0), (vi 0), (vi 0), (.bool true)]) rfl rfl (Nat.le_of_ble_eq_true rfl) rfl rfl))).2 ?_
                       refine S.c9 [(vi 12), (vi 0), (vi 0), (vi 0), (vi 0), (vi 0), (.bool true)] [(vi 12), (vi 0), (vi 0), (vi 0), (vi 0), (vi 0), (.bool true)] rfl rfl (aa rfl (aa rfl (aa rfl (aa rfl (aa rfl (aa rfl (aa rfl rfl))))))) (Nat.le_of_ble_eq_true rfl) rfl (fun h S => ?_)
                       refine S.cK [(vi 12), (vi 0), (vi 0), (vi 0), (vi 0), (vi 0), (.bool true)] 0 rfl rfl rfl (by decide) ?_
                       cases M
                       exact H _ _  S.bA
                     · have M := aZ hc M
                       refine c7.2 ?_
                       refine bE (fun hc => ?_) (fun hc => ?_)
                       · have M := aY hc M
                         refine (fW (l := [(vi 0), (vi 0), (vi 0), (vi 0), (vi 0), (vi 0), (.bool true)]) (cq (m := [(.bool true)]) (l2 := [(vi 0), (vi 0), (vi 0), (vi 0), (vi 0), (vi 0), (.bool true)]) rfl rfl (Nat.le_of_ble_eq_true rfl) rfl rfl)).2 ?_
                         refine S.c9 [(vi 0), (vi 0), (vi 0), (vi 0), (vi 0), (vi 0), (.bool true)] [(vi 0), (vi 0), (vi 0), (vi 0), (vi 0), (vi 0), (.bool true)] rfl rfl (aa rfl (aa rfl (aa rfl (aa rfl (aa rfl (aa rfl (aa rfl rfl))))))) (Nat.le_of_ble_eq_true rfl) rfl (fun h S => ?_)
                         refine S.cK [(vi 0), (vi 0), (vi 0), (vi 0), (vi 0), (vi 0), (.bool true)] 0 rfl rfl rfl (by decide) ?_
                         cases M
                         exact H _ _  S.bA
                       · have M := aZ hc M
                         refine c7.2 ?_
                         refine bE (fun hc => ?_) (fun hc => ?_)
                         · have M := aY hc M
                           refine dv [(vi 2), (vi 0), (vi 0)] (by simp only [cC, bh, bj, bn, bo,  List.length_cons, List.length_nil, Nat.reduceAdd, Nat.zero_add, decide_true, Bool.and_self]) (by simp only [List.flatMap_cons, List.flatMap_nil, bh, bj, bn, bo,  List.cons_append, List.nil_append, List.append_nil]) ?_
                           refine dv [(vi 1), (vi 0)] (by simp only [cC, bh, bj, bn, bo,  List.length_cons, List.length_nil, Nat.reduceAdd, Nat.zero_add, decide_true, Bool.and_self]) (by simp only [List.flatMap_cons, List.flatMap_nil, bh, bj, bn, bo,  List.cons_append, List.nil_append, List.append_nil]) ?_
                           refine (fW (l := [(vi 2), (vi 0), (vi 0), (vi 0), (vi 1), (vi 0), (.bool false)]) (cq (m := [(vi 2), (vi 0), (vi 0)]) (l2 := [(vi 2), (vi 0), (vi 0), (vi 0), (vi 0), (vi 0), (.bool false)]) rfl rfl (Nat.le_of_ble_eq_true rfl) rfl (cq (m := [(vi 1), (vi 0)]) (l2 := [(vi 2), (vi 0), (vi 0), (vi 0), (vi 1), (vi 0), (.bool false)]) rfl rfl (Nat.le_of_ble_eq_true rfl) rfl rfl))).2 ?_
                           refine S.c9 [(vi 2), (vi 0), (vi 0), (vi 0), (vi 1), (vi 0), (.bool false)] [(vi 2), (vi 0), (vi 0), (vi 0), (vi 1), (vi 0), (.bool false)] rfl rfl (aa rfl (aa rfl (aa rfl (aa rfl (aa rfl (aa rfl (aa rfl rfl))))))) (Nat.le_of_ble_eq_true rfl) rfl (fun h S => ?_)
                           refine S.cK [(vi 2), (vi 0), (vi 0), (vi 0), (vi 1), (vi 0), (.bool false)] 0 rfl rfl rfl (by decide) ?_
                           cases M
                           exact H _ _  S.bA
                         · have M := aZ hc M
                           refine c7.2 ?_
                           refine bE (fun hc => ?_) (fun hc => ?_)
                           · have M := aY hc M
                             refine dv [(vi 1), (vi 0), (vi 0)] (by simp only [cC, bh, bj, bn, bo,  List.length_cons, List.length_nil, Nat.reduceAdd, Nat.zero_add, decide_true, Bool.and_self]) (by simp only [List.flatMap_cons, List.flatMap_nil, bh, bj, bn, bo,  List.cons_append, List.nil_append, List.append_nil]) ?_
                             refine dv [(vi 1), (vi 0)] (by simp only [cC, bh, bj, bn, bo,  List.length_cons, List.length_nil, Nat.reduceAdd, Nat.zero_add, decide_true, Bool.and_self]) (by simp only [List.flatMap_cons, List.flatMap_nil, bh, bj, bn, bo,  List.cons_append, List.nil_append, List.append_nil]) ?_
                             refine (fW (l := [(vi 1), (vi 0), (vi 0), (vi 0), (vi 1), (vi 0), (.bool false)]) (cq (m := [(vi 1), (vi 0), (vi 0)]) (l2 := [(vi 1), (vi 0), (vi 0), (vi 0), (vi 0), (vi 0), (.bool false)]) rfl rfl (Nat.le_of_ble_eq_true rfl) rfl (cq (m := [(vi 1), (vi 0)]) (l2 := [(vi 1), (vi 0), (vi 0), (vi 0), (vi 1), (vi 0), (.bool false)]) rfl rfl (Nat.le_of_ble_eq_true rfl) rfl rfl))).2 ?_
                             refine S.c9 [(vi 1), (vi 0), (vi 0), (vi 0), (vi 1), (vi 0), (.bool false)] [(vi 1), (vi 0), (vi 0), (vi 0), (vi 1), (vi 0), (.bool false)] rfl rfl (aa rfl (aa rfl (aa rfl (aa rfl (aa rfl (aa rfl (aa rfl rfl))))))) (Nat.le_of_ble_eq_true rfl) rfl (fun h S => ?_)
                             refine S.cK [(vi 1), (vi 0), (vi 0), (vi 0), (vi 1), (vi 0), (.bool false)] 0 rfl rfl rfl (by decide) ?_
                             cases M
                             exact H _ _  S.bA
                           · have M := aZ hc M
                             refine c7.2 ?_
                             refine bE (fun hc => ?_) (fun hc => ?_)
                             · have M := aY hc M
                               refine dv [(vi 1), (vi 0), (vi 0)] (by simp only [cC, bh, bj, bn, bo,  List.length_cons, List.length_nil, Nat.reduceAdd, Nat.zero_add, decide_true, Bool.and_self]) (by simp only [List.flatMap_cons, List.flatMap_nil, bh, bj, bn, bo,  List.cons_append, List.nil_append, List.append_nil]) ?_
                               refine dv [(vi 1), (vi 0)] (by simp only [cC, bh, bj, bn, bo,  List.length_cons, List.length_nil, Nat.reduceAdd, Nat.zero_add, decide_true, Bool.and_self]) (by simp only [List.flatMap_cons, List.flatMap_nil, bh, bj, bn, bo,  List.cons_append, List.nil_append, List.append_nil]) ?_
                               refine (fW (l := [(vi 1), (vi 0), (vi 0), (vi 0), (vi 1), (vi 0), (.bool true)]) (cq (m := [(vi 1), (vi 0), (vi 0)]) (l2 := [(vi 1), (vi 0), (vi 0), (vi 0), (vi 0), (vi 0), (.bool false)]) rfl rfl (Nat.le_of_ble_eq_true rfl) rfl (cq (m := [(vi 1), (vi 0)]) (l2 := [(vi 1), (vi 0), (vi 0), (vi 0), (vi 1), (vi 0), (.bool false)]) rfl rfl (Nat.le_of_ble_eq_true rfl) rfl (cq (m := [(.bool true)]) (l2 := [(vi 1), (vi 0), (vi 0), (vi 0), (vi 1), (vi 0), (.bool true)]) rfl rfl (Nat.le_of_ble_eq_true rfl) rfl rfl)))).2 ?_
                               refine S.c9 [(vi 1), (vi 0), (vi 0), (vi 0), (vi 1), (vi 0), (.bool true)] [(vi 1), (vi 0), (vi 0), (vi 0), (vi 1), (vi 0), (.bool true)] rfl rfl (aa rfl (aa rfl (aa rfl (aa rfl (aa rfl (aa rfl (aa rfl rfl))))))) (Nat.le_of_ble_eq_true rfl) rfl (fun h S => ?_)
                               refine S.cK [(vi 1), (vi 0), (vi 0), (vi 0), (vi 1), (vi 0), (.bool true)] 0 rfl rfl rfl (by decide) ?_
                               cases M
                               exact H _ _  S.bA
                             · have M := aZ hc M
                               refine c7.2 ?_
                               refine bE (fun hc => ?_) (fun hc => ?_)
                               · have M := aY hc M
                                 refine (fW (l := [(vi 0), (vi 0), (vi 0), (vi 0), (vi 0), (vi 0), (.bool false)]) rfl).2 ?_
                                 refine S.c9 [(vi 0), (vi 0), (vi 0), (vi 0), (vi 0), (vi 0), (.bool false)] [(vi 0), (vi 0), (vi 0), (vi 0), (vi 0), (vi 0), (.bool false)] rfl rfl (aa rfl (aa rfl (aa rfl (aa rfl (aa rfl (aa rfl (aa rfl rfl))))))) (Nat.le_of_ble_eq_true rfl) rfl (fun h S => ?_)
                                 refine S.cK [(vi 0), (vi 0), (vi 0), (vi 0), (vi 0), (vi 0), (.bool false)] 0 rfl rfl rfl (by decide) ?_
                                 cases M
                                 exact H _ _  S.bA
                               · have M := aZ hc M
                                 refine c7.2 ?_
                                 refine bE (fun hc => ?_) (fun hc => ?_)
                                 · have M := aY hc M
                                   refine dv [(vi 1), (vi 11), (vi 0)] (by simp only [cC, bh, bj, bn, bo,  List.length_cons, List.length_nil, Nat.reduceAdd, Nat.zero_add, decide_true, Bool.and_self]) (by simp only [List.flatMap_cons, List.flatMap_nil, bh, bj, bn, bo,  List.cons_append, List.nil_append, List.append_nil]) ?_
                                   refine dv [(vi 1), (vi 0)] (by simp only [cC, bh, bj, bn, bo,  List.length_cons, List.length_nil, Nat.reduceAdd, Nat.zero_add, decide_true, Bool.and_self]) (by simp only [List.flatMap_cons, List.flatMap_nil, bh, bj, bn, bo,  List.cons_append, List.nil_append, List.append_nil]) ?_
                                   refine (fW (l := [(vi 1), (vi 11), (vi 0), (vi 0), (vi 1), (vi 0), (.bool true)]) (cq (m := [(vi 1), (vi 11), (vi 0)]) (l2 := [(vi 1), (vi 11), (vi 0), (vi 0), (vi 0), (vi 0), (.bool false)]) rfl rfl (Nat.le_of_ble_eq_true rfl) rfl (cq (m := [(vi 1), (vi 0)]) (l2 := [(vi 1), (vi 11), (vi 0), (vi 0), (vi 1), (vi 0), (.bool false)]) rfl rfl (Nat.le_of_ble_eq_true rfl) rfl (cq (m := [(.bool true)]) (l2 := [(vi 1), (vi 11), (vi 0), (vi 0), (vi 1), (vi 0), (.bool true)]) rfl rfl (Nat.le_of_ble_eq_true rfl) rfl rfl)))).2 ?_
                                   refine S.c9 [(vi 1), (vi 11), (vi 0), (vi 0), (vi 1), (vi 0), (.bool true)] [(vi 1), (vi 11), (vi 0), (vi 0), (vi 1), (vi 0), (.bool true)] rfl rfl (aa rfl (aa rfl (aa rfl (aa rfl (aa rfl (aa rfl (aa rfl rfl))))))) (Nat.le_of_ble_eq_true rfl) rfl (fun h S => ?_)
                                   refine S.cK [(vi 1), (vi 11), (vi 0), (vi 0), (vi 1), (vi 0), (.bool true)] 0 rfl rfl rfl (by decide) ?_
                                   cases M
                                   exact H _ _  S.bA
                                 · have M := aZ hc M
                                   refine c7.2 ?_
                                   refine bE (fun hc => ?_) (fun hc => ?_)
                                   · have M := aY hc M
                                     refine dv [(vi 1), (vi 13), (vi 0)] (by simp only [cC, bh, bj, bn, bo,  List.length_cons, List.length_nil, Nat.reduceAdd, Nat.zero_add, decide_true, Bool.and_self]) (by simp only [List.flatMap_cons, List.flatMap_nil, bh, bj, bn, bo,  List.cons_append, List.nil_append, List.append_nil]) ?_
                                     refine (fW (l := [(vi 1), (vi 13), (vi 0), (vi 1), (vi 0), (vi 0), (.bool false)]) (cq (m := [(vi 1), (vi 13), (vi 0)]) (l2 := [(vi 1), (vi 13), (vi 0), (vi 0), (vi 0), (vi 0), (.bool false)]) rfl rfl (Nat.le_of_ble_eq_true rfl) rfl (cq (m := [(vi 1)]) (l2 := [(vi 1), (vi 13), (vi 0), (vi 1), (vi 0), (vi 0), (.bool false)]) rfl rfl (Nat.le_of_ble_eq_true rfl) rfl rfl))).2 ?_
                                     refine S.c9 [(vi 1), (vi 13), (vi 0), (vi 1), (vi 0), (vi 0), (.bool false)] [(vi 1), (vi 13), (vi 0), (vi 1), (vi 0), (vi 0), (.bool false)] rfl rfl (aa rfl (aa rfl (aa rfl (aa rfl (aa rfl (aa rfl (aa rfl rfl))))))) (Nat.le_of_ble_eq_true rfl) rfl (fun h S => ?_)
                                     refine S.cK [(vi 1), (vi 13), (vi 0), (vi 1), (vi 0), (vi 0), (.bool false)] 0 rfl rfl rfl (by decide) ?_
                                     cases M
                                     exact H _ _  S.bA
                                   · have M := aZ hc M
                                     refine c7.2 ?_
                                     refine bE (fun hc => ?_) (fun hc => ?_)
                                     · have M := aY hc M
                                       refine dv [(vi 13), (vi 1), (vi 0)] (by simp only [cC, bh, bj, bn, bo,  List.length_cons, List.length_nil, Nat.reduceAdd, Nat.zero_add, decide_true, Bool.and_self]) (by simp only [List.flatMap_cons, List.flatMap_nil, bh, bj, bn, bo,  List.cons_append, List.nil_append, List.append_nil]) ?_
                                       refine dv [(vi 2), (vi 0)] (by simp only [cC, bh, bj, bn, bo,  List.length_cons, List.length_nil, Nat.reduceAdd, Nat.zero_add, decide_true, Bool.and_self]) (by simp only [List.flatMap_cons, List.flatMap_nil, bh, bj, bn, bo,  List.cons_append, List.nil_append, List.append_nil]) ?_
                                       refine (fW (l := [(vi 13), (vi 1), (vi 0), (vi 0), (vi 2), (vi 0), (.bool false)]) (cq (m := [(vi 13), (vi 1), (vi 0)]) (l2 := [(vi 13), (vi 1), (vi 0), (vi 0), (vi 0), (vi 0), (.bool false)]) rfl rfl (Nat.le_of_ble_eq_true rfl) rfl (cq (m := [(vi 2), (vi 0)]) (l2 := [(vi 13), (vi 1), (vi 0), (vi 0), (vi 2), (vi 0), (.bool false)]) rfl rfl (Nat.le_of_ble_eq_true rfl) rfl rfl))).2 ?_
                                       refine S.c9 [(vi 13), (vi 1), (vi 0), (vi 0), (vi 2), (vi 0), (.bool false)] [(vi 13), (vi 1), (vi 0), (vi 0), (vi 2), (vi 0), (.bool false)] rfl rfl (aa rfl (aa rfl (aa rfl (aa rfl (aa rfl (aa rfl (aa rfl rfl))))))) (Nat.le_of_ble_eq_true rfl) rfl (fun h S => ?_)
                                       refine S.cK [(vi 13), (vi 1), (vi 0), (vi 0), (vi 2), (vi 0), (.bool false)] 0 rfl rfl rfl (by decide) ?_
                                       cases M
                                       exact H _ _  S.bA
                                     · have M := aZ hc M
                                       exact agx M S  H
theorem Bn {w0 : World} {c : Cx} {g h : AH} {E R : Value → W} {r : cv × Bool} {v1 : cv} {x0 : Int} {vK : Bool} {au : Nat}  (M : td v1 x0 vK = some r) (S : Sep c g h [.bx au [(vi v1.gA.e0), (vi v1.gA.e1), (vi v1.gA.e2), (vi v1.tf), (vi v1.kv.e0), (vi v1.kv.e1), (.bool v1.pE)]])   (H : xD c R r) : tK w0 E R (av au 0) (vi x0) (.bool vK) h := by
 unfold tK
 unfold td at M
 refine bE (fun hc => ?_) (fun hc => ?_)
 · have M := aY hc M
   refine dv [(vi 1), (vi 1), (vi 1)] (by simp only [cC, bh, bj, bn, bo,  List.length_cons, List.length_nil, Nat.reduceAdd, Nat.zero_add, decide_true, Bool.and_self]) (by simp only [List.flatMap_cons, List.flatMap_nil, bh, bj, bn, bo,  List.cons_append, List.nil_append, List.append_nil]) ?_
   refine dv [(vi 2), (vi 3)] (by simp only [cC, bh, bj, bn, bo,  List.length_cons, List.length_nil, Nat.reduceAdd, Nat.zero_add, decide_true, Bool.and_self]) (by simp only [List.flatMap_cons, List.flatMap_nil, bh, bj, bn, bo,  List.cons_append, List.nil_append, List.append_nil]) ?_
   refine dv [(vi 1), (vi 1), (vi 1), (vi 1), (vi 2), (vi 3), (.bool true)] (by simp only [cC, bh, bj, bn, bo,  List.length_cons, List.length_nil, Nat.reduceAdd, Nat.zero_add, decide_true, Bool.and_self]) (by simp only [List.flatMap_cons, List.flatMap_nil, bh, bj, bn, bo,  List.cons_append, List.nil_append, List.append_nil]) ?_
   refine S.c9 [(vi 1), (vi 1), (vi 1), (vi 1), (vi 2), (vi 3), (.bool true)] [(vi 1), (vi 1), (vi 1), (vi 1), (vi 2), (vi 3), (.bool true)] rfl rfl (aa rfl (aa rfl (aa rfl (aa rfl (aa rfl (aa rfl (aa rfl rfl))))))) (Nat.le_of_ble_eq_true rfl) rfl (fun h S => ?_)
   refine S.cK [(vi 1), (vi 1), (vi 1), (vi 1), (vi 2), (vi 3), (.bool true)] 0 rfl rfl rfl (by decide) ?_
   cases M
   exact H _ _  S.bA
 · have M := aZ hc M
   refine c7.2 ?_
   refine bE (fun hc => ?_) (fun hc => ?_)
   · have M := aY hc M
     exact Nl M S  H
   · have M := aZ hc M
     refine c7.2 ?_
     refine bE (fun hc => ?_) (fun hc => ?_)
     · have M := aY hc M
       exact Nl M S  H
     · have M := aZ hc M
       refine c7.2 ?_
       exact Nl M S  H
theorem FQ {w0 : World} {c : Cx} {g h : AH} {E R : Value → W} {r : cv × Bool} {v1 : cv} {x0 : Int} {vM : Bool} {au : Nat}  (M : vm v1 x0 vM = some r) (S : Sep c g h [.bx au [(vi v1.gA.e0), (vi v1.gA.e1), (vi v1.gA.e2), (vi v1.tf), (vi v1.kv.e0), (vi v1.kv.e1), (.bool v1.pE)]])   (H : xD c R r) : vL w0 E R (av au 0) (vi x0) (.bool vM) h := by
 unfold vL
 unfold vm at M
 refine bE (fun hc => ?_) (fun hc => ?_)
 · have M := aY hc M
   refine dv [(vi 1), (vi 1), (vi 0)] (by simp only [cC, bh, bj, bn, bo,  List.length_cons, List.length_nil, Nat.reduceAdd, Nat.zero_add, decide_true, Bool.and_self]) (by simp only [List.flatMap_cons, List.flatMap_nil, bh, bj, bn, bo,  List.cons_append, List.nil_append, List.append_nil]) ?_
   refine dv [(vi 2), (vi 0)] (by simp only [cC, bh, bj, bn, bo,  List.length_cons, List.length_nil, Nat.reduceAdd, Nat.zero_add, decide_true, Bool.and_self]) (by simp only [List.flatMap_cons, List.flatMap_nil, bh, bj, bn, bo,  List.cons_append, List.nil_append, List.append_nil]) ?_
   refine (fW (l := [(vi 1), (vi 1), (vi 0), (vi 1), (vi 2), (vi 0), (.bool false)]) (cq (m := [(vi 1), (vi 1), (vi 0)]) (l2 := [(vi 1), (vi 1), (vi 0), (vi 0), (vi 0), (vi 0), (.bool false)]) rfl rfl (Nat.le_of_ble_eq_true rfl) rfl (cq (m := [(vi 1)]) (l2 := [(vi 1), (vi 1), (vi 0), (vi 1), (vi 0), (vi 0), (.bool false)]) rfl rfl (Nat.le_of_ble_eq_true rfl) rfl (cq (m := [(vi 2), (vi 0)]) (l2 := [(vi 1), (vi 1), (vi 0), (vi 1), (vi 2), (vi 0), (.bool false)]) rfl rfl (Nat.le_of_ble_eq_true rfl) rfl rfl)))).2 ?_
   refine S.c9 [(vi 1), (vi 1), (vi 0), (vi 1), (vi 2), (vi 0), (.bool false)] [(vi 1), (vi 1), (vi 0), (vi 1), (vi 2), (vi 0), (.bool false)] rfl rfl (aa rfl (aa rfl (aa rfl (aa rfl (aa rfl (aa rfl (aa rfl rfl))))))) (Nat.le_of_ble_eq_true rfl) rfl (fun h S => ?_)
   refine S.cK [(vi 1), (vi 1), (vi 0), (vi 1), (vi 2), (vi 0), (.bool false)] 0 rfl rfl rfl (by decide) ?_
   cases M
   exact H _ _  S.bA
 · have M := aZ hc M
   refine c7.2 ?_
   refine bE (fun hc => ?_) (fun hc => ?_)
   · have M := aY hc M
     exact Bn M S  H
   · have M := aZ hc M
     refine c7.2 ?_
     refine bE (fun hc => ?_) (fun hc => ?_)
     · have M := aY hc M
       exact Bn M S  H
     · have M := aZ hc M
       refine c7.2 ?_
       refine bE (fun hc => ?_) (fun hc => ?_)
       · have M := aY hc M
         exact Bn M S  H
       · have M := aZ hc M
         refine c7.2 ?_
         refine bE (fun hc => ?_) (fun hc => ?_)
         · have M := aY hc M
           exact Bn M S  H
         · have M := aZ hc M
           refine c7.2 ?_
           exact Bn M S  H
theorem VY {w0 : World} {c : Cx} {g h : AH} {E R : Value → W} {r : cv × Bool} {v1 : cv} {x0 : Int} {cz : Bool} {au : Nat}  (M : Bm v1 x0 cz = some r) (S : Sep c g h [.bx au [(vi v1.gA.e0), (vi v1.gA.e1), (vi v1.gA.e2), (vi v1.tf), (vi v1.kv.e0), (vi v1.kv.e1), (.bool v1.pE)]])   (H : xD c R r) : CE w0 E R (av au 0) (vi x0) (.bool cz) h := by
 unfold CE
 unfold Bm at M
 refine bE (fun hc => ?_) (fun hc => ?_)
 · have M := aY hc M
   refine dv [(vi 1), (vi 0), (vi 0)] (by simp only [cC, bh, bj, bn, bo,  List.length_cons, List.length_nil, Nat.reduceAdd, Nat.zero_add, decide_true, Bool.and_self]) (by simp only [List.flatMap_cons, List.flatMap_nil, bh, bj, bn, bo,  List.cons_append, List.nil_append, List.append_nil]) ?_
   refine (fW (l := [(vi 1), (vi 0), (vi 0), (vi 1), (vi 0), (vi 0), (.bool false)]) (cq (m := [(vi 1), (vi 0), (vi 0)]) (l2 := [(vi 1), (vi 0), (vi 0), (vi 0), (vi 0), (vi 0), (.bool false)]) rfl rfl (Nat.le_of_ble_eq_true rfl) rfl (cq (m := [(vi 1)]) (l2 := [(vi 1), (vi 0), (vi 0), (vi 1), (vi 0), (vi 0), (.bool false)]) rfl rfl (Nat.le_of_ble_eq_true rfl) rfl rfl))).2 ?_
   refine S.c9 [(vi 1), (vi 0), (vi 0), (vi 1), (vi 0), (vi 0), (.bool false)] [(vi 1), (vi 0), (vi 0), (vi 1), (vi 0), (vi 0), (.bool false)] rfl rfl (aa rfl (aa rfl (aa rfl (aa rfl (aa rfl (aa rfl (aa rfl rfl))))))) (Nat.le_of_ble_eq_true rfl) rfl (fun h S => ?_)
   refine S.cK [(vi 1), (vi 0), (vi 0), (vi 1), (vi 0), (vi 0), (.bool false)] 0 rfl rfl rfl (by decide) ?_
   cases M
   exact H _ _  S.bA
 · have M := aZ hc M
   refine c7.2 ?_
   refine bE (fun hc => ?_) (fun hc => ?_)
   · have M := aY hc M
     exact FQ M S  H
   · have M := aZ hc M
     refine c7.2 ?_
     refine bE (fun hc => ?_) (fun hc => ?_)
     · have M := aY hc M
       exact FQ M S  H
     · have M := aZ hc M
       refine c7.2 ?_
       refine bE (fun hc => ?_) (fun hc => ?_)
       · have M := aY hc M
         exact FQ M S  H
       · have M := aZ hc M
         refine c7.2 ?_
         exact FQ M S  H
theorem agy {w0 : World} {g h : AH} {Q : CR → AH → Prop} {r : cv × Bool} {x0 : Int} (M : xC x0 = some r) (sg : Sub g h) (ok : h.Ok)  (H : xD ⟨g, h, []⟩ (fun v => Q (.ret v)) r) : WF PP w0 HK [(vi x0)] h Q := by
 refine YW _ ?_
 have S := Sep.start sg ok
 unfold PG
 unfold xC at M
 refine S.alloc (l := [(vi 0), (vi 0), (vi 0), (vi 0), (vi 0), (vi 0), (.bool false)]) (aa rfl (aa rfl (aa rfl (aa rfl (aa rfl (aa rfl (aa rfl rfl))))))) (fun jT h S => ?_)
 refine c7.2 ?_
 refine bE (fun hc => ?_) (fun hc => ?_)
 · have M := aY hc M
   refine dv [(vi 1), (vi 3), (vi 0)] (by simp only [cC, bh, bj, bn, bo,  List.length_cons, List.length_nil, Nat.reduceAdd, Nat.zero_add, decide_true, Bool.and_self]) (by simp only [List.flatMap_cons, List.flatMap_nil, bh, bj, bn, bo,  List.cons_append, List.nil_append, List.append_nil]) ?_
   refine (fW (l := [(vi 1), (vi 3), (vi 0), (vi 1), (vi 0), (vi 0), (.bool false)]) (cq (m := [(vi 1), (vi 3), (vi 0)]) (l2 := [(vi 1), (vi 3), (vi 0), (vi 0), (vi 0), (vi 0), (.bool false)]) rfl rfl (Nat.le_of_ble_eq_true rfl) rfl (cq (m := [(vi 1)]) (l2 := [(vi 1), (vi 3), (vi 0), (vi 1), (vi 0), (vi 0), (.bool false)]) rfl rfl (Nat.le_of_ble_eq_true rfl) rfl rfl))).2 ?_
   refine S.c9 [(vi 1), (vi 3), (vi 0), (vi 1), (vi 0), (vi 0), (.bool false)] [(vi 1), (vi 3), (vi 0), (vi 1), (vi 0), (vi 0), (.bool false)] rfl rfl (aa rfl (aa rfl (aa rfl (aa rfl (aa rfl (aa rfl (aa rfl rfl))))))) (Nat.le_of_ble_eq_true rfl) rfl (fun h S => ?_)
   refine S.cK [(vi 1), (vi 3), (vi 0), (vi 1), (vi 0), (vi 0), (.bool false)] 0 rfl rfl rfl (by decide) ?_
   cases M
   exact H _ _  S.bA
 · have M := aZ hc M
   refine c7.2 ?_
   refine bE (fun hc => ?_) (fun hc => ?_)
   · have M := aY hc M
     refine dv [(vi 1), (vi 4), (vi 0)] (by simp only [cC, bh, bj, bn, bo,  List.length_cons, List.length_nil, Nat.reduceAdd, Nat.zero_add, decide_true, Bool.and_self]) (by simp only [List.flatMap_cons, List.flatMap_nil, bh, bj, bn, bo,  List.cons_append, List.nil_append, List.append_nil]) ?_
     refine (fW (l := [(vi 1), (vi 4), (vi 0), (vi 1), (vi 0), (vi 0), (.bool false)]) (cq (m := [(vi 1), (vi 4), (vi 0)]) (l2 := [(vi 1), (vi 4), (vi 0), (vi 0), (vi 0), (vi 0), (.bool false)]) rfl rfl (Nat.le_of_ble_eq_true rfl) rfl (cq (m := [(vi 1)]) (l2 := [(vi 1), (vi 4), (vi 0), (vi 1), (vi 0), (vi 0), (.bool false)]) rfl rfl (Nat.le_of_ble_eq_true rfl) rfl rfl))).2 ?_
     refine S.c9 [(vi 1), (vi 4), (vi 0), (vi 1), (vi 0), (vi 0), (.bool false)] [(vi 1), (vi 4), (vi 0), (vi 1), (vi 0), (vi 0), (.bool false)] rfl rfl (aa rfl (aa rfl (aa rfl (aa rfl (aa rfl (aa rfl (aa rfl rfl))))))) (Nat.le_of_ble_eq_true rfl) rfl (fun h S => ?_)
     refine S.cK [(vi 1), (vi 4), (vi 0), (vi 1), (vi 0), (vi 0), (.bool false)] 0 rfl rfl rfl (by decide) ?_
     cases M
     exact H _ _  S.bA
   · have M := aZ hc M
     refine c7.2 ?_
     refine bE (fun hc => ?_) (fun hc => ?_)
     · have M := aY hc M
       exact VY M S  H
     · have M := aZ hc M
       refine c7.2 ?_
       exact VY M S  H
def VZ   : Option (Int × Bool) :=
 some (0, false)
def Nn (v1 : al) (v8 : Bool)  : Option (Int × Bool) :=
 bif v8 then (
 some (v1.fB, true)) else (
 VZ )
def V0 (v1 : al)  : Option (Int × Bool) :=
 bif (decide (v1.aO = 25)) then (
 Nn v1 true) else (
 Nn v1 (decide (v1.aO = 32)))
def FR (x0 : al) : Option (Int × Bool) :=
 bif (decide (x0.aO = 24)) then (
 some (x0.fA, true)) else (
 V0 x0)
def agz (N : Nat) (lM : Int) (V1 : ah) (qV : Int → Option Bool) : Option Bool :=
 qV (bD .i64 (lM + 1))
def FU (N : Nat) (lM : Int) (yi : Bool) (V1 : ah) (qV : Int → Option Bool) : Option Bool :=
 bif yi then (
 some false) else (
 agz N lM V1 qV)
def Np (N : Nat) (v1 : ah) (lM : Int) (v4 : Int) (qV : Int → Option Bool) : Option Bool :=
(ix v1.ab lM).bind fun Bo =>
(xC Bo.aO).bind fun agA =>
(ix v1.ab lM).bind fun fw =>
(FR fw).bind fun sN =>
 bif (!agA.2) then (
 FU N lM true v1 qV) else (
 bif sN.2 then (
(qU sN.1 0 (bD .i64 (v4 - 1))).bind fun qS =>
 FU N lM (!qS) v1 qV) else (
 FU N lM false v1 qV))
def agB (N : Nat) (y6 : Int) (tg : ah) (lN : Int → Option Bool) : Option Bool :=
 lN (bD .i64 (y6 + 1))
def Nq (N : Nat) (y6 : Int) (kG : Bool) (tg : ah) (lN : Int → Option Bool) : Option Bool :=
 bif kG then (
 some false) else (
 agB N y6 tg lN)
def Nr (N : Nat) (v12 : ax) (v4 : Int) (y6 : Int) (gC : Bool) (tg : ah) (lN : Int → Option Bool) : Option Bool :=
 bif gC then (
 Nq N y6 true tg lN) else (
(qU v12.dY 0 (bD .i64 (v4 - 1))).bind fun FV =>
 Nq N y6 (!FV) tg lN)
def Bp (N : Nat) (v12 : ax) (v4 : Int) (y6 : Int) (dV : Bool) (tg : ah) (lN : Int → Option Bool) : Option Bool :=
 bif dV then (
 Nr N v12 v4 y6 true tg lN) else (
 Nr N v12 v4 y6 (decide (v4 < v12.ed)) tg lN)
def agC (N : Nat) (v1 : ah) (y6 : Int) (v4 : Int) (lN : Int → Option Bool) : Option Bool :=
(ix v1.ay y6).bind fun ox =>
 bif (decide (ox.dJ < 0)) then (
 Bp N ox v4 y6 true v1 lN) else (
 Bp N ox v4 y6 (decide (ox.ed ≤ ox.dJ)) v1 lN)
def agD (N : Nat)   : Option Bool :=
 some true
def agE (N : Nat) (v1 : ah) (v4 : Int) (y6 : Int) (lN : Int → Option Bool) : Option Bool :=
 bif (decide (y6 < (v1.ay.length : Int))) then (
 agC N v1 y6 v4 lN) else (
 agD N )
def Ns (N : Nat) (v1 : ah) (v4 : Int)  : Nat → Int → Option Bool
 | 0, _ => none
 | n + 1, y6 => agE N v1 v4 y6  (fun aq => Ns N v1 v4 n aq)
def FW (N : Nat) (v1 : ah) (v4 : Int)  : Option Bool :=
 Ns N v1 v4 N 0
def agF (N : Nat) (v4 : Int) (v1 : ah) (lM : Int) (qV : Int → Option Bool) : Option Bool :=
 bif (decide (lM < v4)) then (
 Np N v1 lM v4 qV) else (
 FW N v1 v4)
def Nt (N : Nat) (v4 : Int) (v1 : ah)  : Nat → Int → Option Bool
 | 0, _ => none
 | n + 1, lM => agF N v4 v1 lM  (fun aq => Nt N v4 v1 n aq)
def Nu (N : Nat) (v4 : Int) (v1 : ah)  : Option Bool :=
 Nt N v4 v1 N 0
def Nv (N : Nat) (v4 : Int) (v1 : ah) (yk : Bool)  : Option Bool :=
 bif yk then (
 some false) else (
 Nu N v4 v1)
def Nw (N : Nat) (v1 : ah) (v4 : Int) (yj : Bool)  : Option Bool :=
 bif yj then (
 Nv N v4 v1 true) else (
(qU v1.aL 0 200).bind fun nb =>
 Nv N v4 v1 (!nb))
def Nx (N : Nat) (v1 : ah) (v4 : Int) (v76 : Bool)  : Option Bool :=
 bif v76 then (
 Nw N v1 v4 true) else (
(qU v1.aK 0 200).bind fun kY =>
 Nw N v1 v4 (!kY))
def FX (N : Nat) (x0 : ah) : Option Bool :=
(qU (x0.ab.length : Int) 1 600).bind fun aJ =>
 bif (!aJ) then (
 Nx N x0 (x0.ab.length : Int) true) else (
 Nx N x0 (x0.ab.length : Int) (decide (40 < (x0.ay.length : Int))))
end
end Go.Ve.T
namespace Go.Ve.T
open Go.Ve Go.Proofs
noncomputable section
set_option maxRecDepth 10000
def Bq (x0 : ax) (x1 : Int) : Option Bool :=
 bif (decide (x0.dJ ≤ x1)) then (
 some (decide (x1 < x0.ed))) else (
 some false)
abbrev agG (c : Cx) (R : Value → W) (r : Bool) : Prop := ∀ (g' h' : AH), Sep c g' h' [] → R (.bool r) h'
theorem agH {w0 : World} {g h : AH} {Q : CR → AH → Prop} {r : Bool} {x0 : ax} {x1 : Int} {lL : Nat} (M : Bq x0 x1 = some r) (sg : Sub g h) (ok : h.Ok) (mq : g.aW lL 0 [(vi x1)]) (H : agG ⟨g, h, []⟩ (fun v => Q (.ret v)) r) : WF PP w0 Ce [(.agg ⟨[(vi x0.dJ), (vi x0.ed), (vi x0.dY)]⟩), (av lL 0)] h Q := by
 refine XL _ _ ?_
 have S := Sep.start sg ok
 unfold O2
 unfold Bq at M
 refine S.box [(vi x0.dJ), (vi x0.ed), (vi x0.dY)] rfl (aa rfl (aa rfl (aa rfl rfl))) (fun jT h S => ?_)
 refine bY.2 ?_
 refine S.bP 0 rfl rfl ?_
 refine S.dN (mq 0 _ rfl) ?_
 refine sn.2 ?_
 cases hc : (decide (x0.dJ ≤ x1))
 · have M := aZ hc M
   refine aC (by decide) ?_
   refine aC (by decide) ?_
   refine aC (by decide) ?_
   refine aC (by decide) ?_
   refine bW.2 ?_
   cases M
   exact H _ _  S.bA
 · have M := aY hc M
   refine aD rfl ?_
   refine S.dN (mq 0 _ rfl) ?_
   refine aD rfl ?_
   refine bY.2 ?_
   refine aD rfl ?_
   refine S.bP 0 rfl rfl ?_
   refine aD rfl ?_
   refine iI.2 ?_
   refine bW.2 ?_
   cases M
   exact H _ _  S.bA
def xE (N : Nat) (x0 : ah) (x1 : Int) : Option Int :=
(xv N x0.ay (fun a0 => Bq a0 x1)).bind fun gz =>
 some gz
abbrev agI (c : Cx) (R : Value → W) (r : Int) : Prop := ∀ (g' h' : AH), Sep c g' h' [] → R (vi r) h'
theorem V3 {w0 : World} {g h : AH} {Q : CR → AH → Prop} {r : Int} {N : Nat} {x0 : ah} {x1 : Int} {ct cu : Value} (M : xE N x0 x1 = some r) (sg : Sub g h) (ok : h.Ok) (bU : ae al.rep 4 g ct x0.ab) (cy : ae ax.rep 3 g cu x0.ay) (H : agI ⟨g, h, []⟩ (fun v => Q (.ret v)) r) : WF PP w0 Ch [(.agg ⟨[(.string x0.aQ), (.string x0.aR), (vi x0.fArgs), (vi x0.aK), (vi x0.aL), ct, cu]⟩), (vi x1)] h Q := by
 refine XP _ _ ?_
 have S := Sep.start sg ok
 unfold O4
 unfold xE at M
 refine S.box [(.string x0.aQ), (.string x0.aR), (vi x0.fArgs), (vi x0.aK), (vi x0.aL), ct, cu] rfl (aa rfl (aa rfl (aa rfl (aa rfl (aa rfl (aa bU.one (aa cy.one rfl))))))) (fun jT h S => ?_)
 refine S.box [(vi x1)] rfl (aa rfl rfl) (fun AY h S => ?_)
 refine bY.2 ?_
 refine S.bP 1 rfl rfl ?_
 refine (Eo (by simp)).2 ?_
 obtain ⟨g, sg, S, r_3⟩ := S.pA
 have bU := ae.mono bU al.mono sg
 have cy := ae.mono cy ax.mono sg
 have Ny : oi w0 g (.func (.func Ce) ⟨[]⟩ ⟨[(av AY 0)]⟩) (fun a0 => Bq a0 x1) := ⟨rfl, fun a0 r E K g2 h2 s1 s2 s3  m1 k1 => agH m1 s2 s3 (Sub.aW s1 r_3) k1⟩
 obtain ⟨gz, om, M⟩ := bind_some M
 refine VO om S.sub S.ok cy Ny (fun _ h  S1  => ?_)
 have S := S.dz S1
 cases M
 exact H _ _  S.bA
def Br (N : Nat) (aN : Int) (bR : List Int) (iv : al) (dh : (List Int) → Int → Option ((List Int))) : Option ((List Int)) :=
 dh bR (bD .i64 (aN + 1))
def Bs (N : Nat) (v1 : al) (ch : Int) (ar : List Int) (aN : Int) (v28 : Bool) (dh : (List Int) → Int → Option ((List Int))) : Option ((List Int)) :=
 bif v28 then (
(vf v1).bind fun qW =>
(ix [qW.e0, qW.e1, qW.e2] (bD .i64 (ch - 1))).bind fun iq =>
 gu (decide (ar.length + [iq].length ≤ 1048576)) (
 Br N aN (ar ++ [iq]) v1 dh)) else (
 Br N aN ar v1 dh)
def Bt (N : Nat) (v1 : al) (ch : Int) (ar : List Int) (aN : Int) (v21 : Bool) (dh : (List Int) → Int → Option ((List Int))) : Option ((List Int)) :=
 bif v21 then (
(vf v1).bind fun dK =>
(ix [dK.e0, dK.e1, dK.e2] (bD .i64 (ch - 1))).bind fun eC =>
 Bs N v1 ch ar aN (!decide (eC = (-1))) dh) else (
 Bs N v1 ch ar aN false dh)
def vn (N : Nat) (v11 : dU) (aN : Int) (v6 : Bool) (v1 : al) (ar : List Int) (dh : (List Int) → Int → Option ((List Int))) : Option ((List Int)) :=
(ix [v11.e0, v11.e1] aN).bind fun gz =>
 bif v6 then (
 Bt N v1 gz ar aN (decide (0 < gz)) dh) else (
 Bt N v1 gz ar aN false dh)
def Nz (N : Nat) (y9 : List Int)  : Option ((List Int)) :=
 some y9
def NA (N : Nat) (v11 : dU) (v6 : Bool) (v1 : al) (ar : List Int) (aN : Int) (dh : (List Int) → Int → Option ((List Int))) : Option ((List Int)) :=
 bif (decide (aN < 2)) then (
 vn N v11 aN v6 v1 ar dh) else (
 Nz N ar)
def Bu (N : Nat) (v11 : dU) (v6 : Bool) (v1 : al)  : Nat → (List Int) → Int → Option ((List Int))
 | 0, _, _ => none
 | n + 1, ar, aN => NA N v11 v6 v1 ar aN  (fun aq bp => Bu N v11 v6 v1 n aq bp)
def xe (N : Nat) (x0 : al) : Option ((List Int)) :=
(xo x0.aO).bind fun aJ =>
 Bu N aJ.1.cN aJ.2 x0 N ([] : List Int) 0
abbrev th (c : Cx) (R : Value → W) (r : (List Int)) : Prop := ∀ (g' h' : AH) (w1 : Value), Sep c g' h' [] → ae (rI .i64) 1 g' w1 r → R w1 h'
theorem V4 {w0 : World} {c : Cx} {g h : AH} {E R : Value → W} {r : (List Int)} {N : Nat} {aN : Int} {bR : List Int} {iv : al} {AZ : Value} {A7 : List (List Value)} {A8 : Nat} {dk : Value → Value → W} {dh : (List Int) → Int → Option ((List Int))} {gN : AH} (M : Br N aN bR iv dh = some r) (S : Sep c g h [.sl 3 1 AZ A7, .bx A8 [(vi iv.aO), (vi iv.fA), (vi iv.fB), (vi iv.fC)]]) (M0 : aw ((rI .i64) g) A7 bR) (jh : Sub gN g) (ji : ∀ {aq : List Int} {eD : Value} {eE : List (List Value)} {bp : Int} {g2 h2 : AH}, dh aq bp = some r → Sub gN g2 → Sep c g2 h2 [.bx A8 [(vi iv.aO), (vi iv.fA), (vi iv.fB), (vi iv.fC)], .sl 3 1 eD eE] → aw ((rI .i64) g2) eE aq → dk eD (vi bp) h2) (H : th c R r) : Cs w0 E R (vi aN) dk AZ h := by
 unfold Cs
 unfold Br at M
 refine lE.2 ?_
 have S := S.f1
 exact ji M jh S M0
theorem V5 {w0 : World} {c : Cx} {g h : AH} {E R : Value → W} {r : (List Int)} {N : Nat} {v1 : al} {ch : Int} {ar : List Int} {aN : Int} {v28 : Bool} {au : Nat} {ft : Value} {eZ : List (List Value)} {dk : Value → Value → W} {dh : (List Int) → Int → Option ((List Int))} {gN : AH} (M : Bs N v1 ch ar aN v28 dh = some r) (S : Sep c g h [.bx au [(vi v1.aO), (vi v1.fA), (vi v1.fB), (vi v1.fC)], .sl 3 1 ft eZ]) (fu : aw ((rI .i64) g) eZ ar) (jh : Sub gN g) (ji : ∀ {aq : List Int} {eD : Value} {eE : List (List Value)} {bp : Int} {g2 h2 : AH}, dh aq bp = some r → Sub gN g2 → Sep c g2 h2 [.bx au [(vi v1.aO), (vi v1.fA), (vi v1.fB), (vi v1.fC)], .sl 3 1 eD eE] → aw ((rI .i64) g2) eE aq → dk eD (vi bp) h2) (H : th c R r) : Hd w0 E R (av au 0) (vi ch) ft (vi aN) dk (.bool v28) h := by
 unfold Hd
 unfold Bs at M
 refine bE (fun hc => ?_) (fun hc => ?_)
 · have M := aY hc M
   refine S.cK [(vi v1.aO), (vi v1.fA), (vi v1.fB), (vi v1.fC)] 0 rfl rfl rfl (by decide) ?_
   obtain ⟨qW, NB, M⟩ := bind_some M
   refine FJ NB S.sub S.ok (fun _ h  S1  => ?_)
   have S := S.dz S1
   refine mY.2 ?_
   obtain ⟨iq, uR, M⟩ := bind_some M
   refine xm [qW.e0, qW.e1, qW.e2] (fun q => (vi q)) rfl uR ?_
   refine S.uX [[(vi iq)]] (cq (m := [(vi iq)]) (l2 := [(vi iq)]) rfl rfl (Nat.le_of_ble_eq_true rfl) rfl rfl) rfl (by decide) (u9 rfl uZ) (aa rfl rfl) (fun V6 h S => ?_)
   have qX : aw ((rI .i64) g) [[(vi iq)]] [iq] := (aw.push aw.nil (show (rI .i64) g [(vi iq)] iq from rfl))
   have S := S.f2
   obtain ⟨NC, M⟩ := ml M
   refine S.app (S.rd 1 rfl) (by rw [fu.1, qX.1]; exact NC) (by decide) rfl (nh (pB .i64) qX) (nh (pB .i64) fu) (fun ND h S => ?_)
   have NF : aw ((rI .i64) g) (eZ ++ [[(vi iq)]]) (ar ++ [iq]) := aw.append fu qX
   have S := S.f2
   have S := S.f1
   have S := S.t2
   exact V4 M S NF jh ji H
 · have M := aZ hc M
   have S := S.f1
   exact V4 M S fu jh ji H
theorem V7 {w0 : World} {c : Cx} {g h : AH} {E R : Value → W} {r : (List Int)} {N : Nat} {v1 : al} {ch : Int} {ar : List Int} {aN : Int} {v21 : Bool} {au : Nat} {ft : Value} {eZ : List (List Value)} {dk : Value → Value → W} {dh : (List Int) → Int → Option ((List Int))} {gN : AH} (M : Bt N v1 ch ar aN v21 dh = some r) (S : Sep c g h [.bx au [(vi v1.aO), (vi v1.fA), (vi v1.fB), (vi v1.fC)], .sl 3 1 ft eZ]) (fu : aw ((rI .i64) g) eZ ar) (jh : Sub gN g) (ji : ∀ {aq : List Int} {eD : Value} {eE : List (List Value)} {bp : Int} {g2 h2 : AH}, dh aq bp = some r → Sub gN g2 → Sep c g2 h2 [.bx au [(vi v1.aO), (vi v1.fA), (vi v1.fB), (vi v1.fC)], .sl 3 1 eD eE] → aw ((rI .i64) g2) eE aq → dk eD (vi bp) h2) (H : th c R r) : He w0 E R (av au 0) (vi ch) ft (vi aN) dk (.bool v21) h := by
 unfold He
 unfold Bt at M
 cases hc : v21
 · have M := aZ hc M
   refine aC (by decide) ?_
   refine aC (by decide) ?_
   refine aC (by decide) ?_
   refine aC (by decide) ?_
   refine aC (by decide) ?_
   refine aC (by decide) ?_
   refine bW.2 ?_
   exact V5 M S fu jh ji H
 · have M := aY hc M
   refine aD rfl ?_
   refine S.cK [(vi v1.aO), (vi v1.fA), (vi v1.fB), (vi v1.fC)] 0 rfl rfl rfl (by decide) ?_
   refine aD rfl ?_
   obtain ⟨dK, mo, M⟩ := bind_some M
   refine FJ mo S.sub S.ok (fun _ h  S1  => ?_)
   have S := S.dz S1
   refine aD rfl ?_
   refine aD rfl ?_
   refine mY.2 ?_
   refine aD rfl ?_
   obtain ⟨eC, vh, M⟩ := bind_some M
   refine xm [dK.e0, dK.e1, dK.e2] (fun q => (vi q)) rfl vh ?_
   refine aD rfl ?_
   refine sk.2 ?_
   refine bW.2 ?_
   exact V5 M S fu jh ji H
theorem agJ {w0 : World} {c : Cx} {g h : AH} {E R : Value → W} {r : (List Int)} {N : Nat} {v11 : dU} {aN : Int} {v6 : Bool} {v1 : al} {ar : List Int} {au : Nat} {ft : Value} {eZ : List (List Value)} {dk : Value → Value → W} {dh : (List Int) → Int → Option ((List Int))} {gN : AH} (M : vn N v11 aN v6 v1 ar dh = some r) (S : Sep c g h [.bx au [(vi v1.aO), (vi v1.fA), (vi v1.fB), (vi v1.fC)], .sl 3 1 ft eZ]) (fu : aw ((rI .i64) g) eZ ar) (jh : Sub gN g) (ji : ∀ {aq : List Int} {eD : Value} {eE : List (List Value)} {bp : Int} {g2 h2 : AH}, dh aq bp = some r → Sub gN g2 → Sep c g2 h2 [.bx au [(vi v1.aO), (vi v1.fA), (vi v1.fB), (vi v1.fC)], .sl 3 1 eD eE] → aw ((rI .i64) g2) eE aq → dk eD (vi bp) h2) (H : th c R r) : Hf w0 E R (.agg ⟨[(vi v11.e0), (vi v11.e1)]⟩) (vi aN) (.bool v6) (av au 0) ft dk h := by
 unfold Hf
 unfold vn at M
 obtain ⟨gz, om, M⟩ := bind_some M
 refine xm [v11.e0, v11.e1] (fun q => (vi q)) rfl om ?_
 cases hc : v6
 · have M := aZ hc M
   refine aC (by decide) ?_
   refine aC (by decide) ?_
   refine bW.2 ?_
   exact V7 M S fu jh ji H
 · have M := aY hc M
   refine aD rfl ?_
   refine aD rfl ?_
   refine qC.2 ?_
   refine bW.2 ?_
   exact V7 M S fu jh ji H
theorem agK {w0 : World} {c : Cx} {g h : AH} {E R : Value → W} {r : (List Int)} {N : Nat} {y9 : List Int} {vj : Value} {Ba : List (List Value)}  (M : Nz N y9 = some r) (S : Sep c g h [.sl 3 1 vj Ba]) (M1 : aw ((rI .i64) g) Ba y9)  (H : th c R r) : Hc w0 E R vj h := by
 unfold Hc
 unfold Nz at M
 obtain ⟨g, sg, S, agL⟩ := S.fz M1 (gK .i64)
 cases M
 exact H _ _ vj S.bA agL
theorem agM {w0 : World} {c : Cx} {g h : AH} {E R : Value → W} {r : (List Int)} {N : Nat} {v11 : dU} {v6 : Bool} {v1 : al} {ar : List Int} {aN : Int} {au : Nat} {ft : Value} {eZ : List (List Value)} {dk : Value → Value → W} {dh : (List Int) → Int → Option ((List Int))} {gN : AH} (M : NA N v11 v6 v1 ar aN dh = some r) (S : Sep c g h [.bx au [(vi v1.aO), (vi v1.fA), (vi v1.fB), (vi v1.fC)], .sl 3 1 ft eZ]) (fu : aw ((rI .i64) g) eZ ar) (jh : Sub gN g) (ji : ∀ {aq : List Int} {eD : Value} {eE : List (List Value)} {bp : Int} {g2 h2 : AH}, dh aq bp = some r → Sub gN g2 → Sep c g2 h2 [.bx au [(vi v1.aO), (vi v1.fA), (vi v1.fB), (vi v1.fC)], .sl 3 1 eD eE] → aw ((rI .i64) g2) eE aq → dk eD (vi bp) h2) (H : th c R r) : Ct w0 E R (.agg ⟨[(vi v11.e0), (vi v11.e1)]⟩) (.bool v6) (av au 0) dk ft (vi aN) h := by
 unfold Ct
 unfold NA at M
 refine iI.2 ?_
 refine bE (fun hc => ?_) (fun hc => ?_)
 · have M := aY hc M
   exact agJ M S fu jh ji H
 · have M := aZ hc M
   have S := S.f1
   have S := S.t1
   exact agK M S fu H
theorem agN {w0 : World} {c : Cx} {E R : Value → W} {r : (List Int)} {N : Nat} {v11 : dU} {v6 : Bool} {v1 : al} {au : Nat}   (H : th c R r) : ∀ (n : Nat) {ar : List Int} {aN : Int} {ft : Value} {eZ : List (List Value)} {g h : AH}, Bu N v11 v6 v1 n ar aN = some r → Sep c g h [.bx au [(vi v1.aO), (vi v1.fA), (vi v1.fB), (vi v1.fC)], .sl 3 1 ft eZ] → aw ((rI .i64) g) eZ ar → gr (α := Value × Value) (fun k a => Ct w0 E R (.agg ⟨[(vi v11.e0), (vi v11.e1)]⟩) (.bool v6) (av au 0) (fun b0 b1 => k (b0, b1)) a.1 a.2) n (ft, (vi aN)) h := by
 intro n
 induction n with
 | zero =>
  intro ar aN ft eZ g h M S fu
  unfold Bu at M; cases M
 | succ n ih =>
  intro ar aN ft eZ g h M S fu
  exact agM M S fu  (Sub.refl g) (fun M2 sub S2 Bb => ih M2 S2 Bb ) H
theorem U5 {w0 : World} {g h : AH} {Q : CR → AH → Prop} {r : (List Int)} {N : Nat} {x0 : al} (M : xe N x0 = some r) (sg : Sub g h) (ok : h.Ok)  (H : th ⟨g, h, []⟩ (fun v => Q (.ret v)) r) : WF PP w0 Cu [(.agg ⟨[(vi x0.aO), (vi x0.fA), (vi x0.fB), (vi x0.fC)]⟩)] h Q := by
 refine Ya _ ?_
 have S := Sep.start sg ok
 unfold Pm
 unfold xe at M
 refine S.box [(vi x0.aO), (vi x0.fA), (vi x0.fB), (vi x0.fC)] rfl (aa rfl (aa rfl (aa rfl (aa rfl rfl)))) (fun jT h S => ?_)
 refine bY.2 ?_
 refine S.bP 0 rfl rfl ?_
 obtain ⟨aJ, im, M⟩ := bind_some M
 refine Bc x0.aO S.sub S.ok im (fun _ h  S1  => ?_)
 have S := S.dz S1
 refine (jd rfl).2 ?_
 refine (jd rfl).2 ?_
 refine S.alloc (l := [(.string (⟨⟨[]⟩⟩ : ByteArray)), (vi 0), (vi 0), (vi 0), (vi 0), (vi 0), (vi 0), (.bool false), (.bool false)]) (aa rfl (aa rfl (aa rfl (aa rfl (aa rfl (aa rfl (aa rfl (aa rfl (aa rfl rfl))))))))) (fun M3 h S => ?_)
 refine S.c9 [(.string aJ.1.oo), (vi aJ.1.dB.e0), (vi aJ.1.dB.e1), (vi aJ.1.dB.e2), (vi aJ.1.jj), (vi aJ.1.cN.e0), (vi aJ.1.cN.e1), (.bool aJ.1.jk), (.bool aJ.1.jA)] [(.string aJ.1.oo), (vi aJ.1.dB.e0), (vi aJ.1.dB.e1), (vi aJ.1.dB.e2), (vi aJ.1.jj), (vi aJ.1.cN.e0), (vi aJ.1.cN.e1), (.bool aJ.1.jk), (.bool aJ.1.jA)] rfl rfl (aa rfl (aa rfl (aa rfl (aa rfl (aa rfl (aa rfl (aa rfl (aa rfl (aa rfl rfl))))))))) (Nat.le_of_ble_eq_true rfl) rfl (fun h S => ?_)
 refine bY.2 ?_
 refine S.cK [(vi aJ.1.cN.e0), (vi aJ.1.cN.e1)] 0 rfl rfl rfl (by decide) ?_
 have S := S.AS 3 1
 have S := S.f2
 have S := S.t2
 exact ⟨N, agN  H _ M S (aw.nil (R := (rI .i64) g)) ⟩
def Bv (v1 : al) (v7 : qY)  : Option Int :=
(vf v1).bind fun gz =>
(ix [gz.e0, gz.e1, gz.e2] (bD .i64 (v7.jj - 1))).bind fun dK =>
 some dK
def uO (x0 : al) : Option Int :=
(xo x0.aO).bind fun aJ =>
 bif (decide (aJ.1.jj = 0)) then (
 some (-1)) else (
 Bv x0 aJ.1)
abbrev V8 (c : Cx) (R : Value → W) (r : Int) : Prop := ∀ (g' h' : AH), Sep c g' h' [] → R (vi r) h'
theorem agO {w0 : World} {c : Cx} {g h : AH} {E R : Value → W} {r : Int} {v1 : al} {v7 : qY} {au V9 : Nat}  (M : Bv v1 v7 = some r) (S : Sep c g h [.bx au [(vi v1.aO), (vi v1.fA), (vi v1.fB), (vi v1.fC)], .bx V9 [(.string v7.oo), (vi v7.dB.e0), (vi v7.dB.e1), (vi v7.dB.e2), (vi v7.jj), (vi v7.cN.e0), (vi v7.cN.e1), (.bool v7.jk), (.bool v7.jA)]])   (H : V8 c R r) : Hg w0 E R (av au 0) (av V9 0) h := by
 unfold Hg
 unfold Bv at M
 refine S.cK [(vi v1.aO), (vi v1.fA), (vi v1.fB), (vi v1.fC)] 0 rfl rfl rfl (by decide) ?_
 refine bY.2 ?_
 refine S.bP 1 rfl rfl ?_
 refine mY.2 ?_
 obtain ⟨gz, om, M⟩ := bind_some M
 refine FJ om S.sub S.ok (fun _ h  S1  => ?_)
 have S := S.dz S1
 refine ⟨?_, ?_⟩
 · refine mY.2 ?_
   exact Mq
 · refine ⟨?_, ?_⟩
   · refine S.bP 1 rfl rfl ?_
     exact Mq
   · refine ⟨?_, ?_⟩
     · refine bY.2 ?_
       exact UP
     · obtain ⟨dK, mo, M⟩ := bind_some M
       refine xm [gz.e0, gz.e1, gz.e2] (fun q => (vi q)) rfl mo ?_
       cases M
       exact H _ _  S.bA
theorem U3 {w0 : World} {g h : AH} {Q : CR → AH → Prop} {r : Int} {x0 : al} (M : uO x0 = some r) (sg : Sub g h) (ok : h.Ok)  (H : V8 ⟨g, h, []⟩ (fun v => Q (.ret v)) r) : WF PP w0 Cw [(.agg ⟨[(vi x0.aO), (vi x0.fA), (vi x0.fB), (vi x0.fC)]⟩)] h Q := by
 refine Yh _ ?_
 have S := Sep.start sg ok
 unfold Pp
 unfold uO at M
 refine S.box [(vi x0.aO), (vi x0.fA), (vi x0.fB), (vi x0.fC)] rfl (aa rfl (aa rfl (aa rfl (aa rfl rfl)))) (fun jT h S => ?_)
 refine bY.2 ?_
 refine S.bP 0 rfl rfl ?_
 obtain ⟨aJ, im, M⟩ := bind_some M
 refine Bc x0.aO S.sub S.ok im (fun _ h  S1  => ?_)
 have S := S.dz S1
 refine (jd rfl).2 ?_
 refine (jd rfl).2 ?_
 refine S.alloc (l := [(.string (⟨⟨[]⟩⟩ : ByteArray)), (vi 0), (vi 0), (vi 0), (vi 0), (vi 0), (vi 0), (.bool false), (.bool false)]) (aa rfl (aa rfl (aa rfl (aa rfl (aa rfl (aa rfl (aa rfl (aa rfl (aa rfl rfl))))))))) (fun M3 h S => ?_)
 refine S.c9 [(.string aJ.1.oo), (vi aJ.1.dB.e0), (vi aJ.1.dB.e1), (vi aJ.1.dB.e2), (vi aJ.1.jj), (vi aJ.1.cN.e0), (vi aJ.1.cN.e1), (.bool aJ.1.jk), (.bool aJ.1.jA)] [(.string aJ.1.oo), (vi aJ.1.dB.e0), (vi aJ.1.dB.e1), (vi aJ.1.dB.e2), (vi aJ.1.jj), (vi aJ.1.cN.e0), (vi aJ.1.cN.e1), (.bool aJ.1.jk), (.bool aJ.1.jA)] rfl rfl (aa rfl (aa rfl (aa rfl (aa rfl (aa rfl (aa rfl (aa rfl (aa rfl (aa rfl rfl))))))))) (Nat.le_of_ble_eq_true rfl) rfl (fun h S => ?_)
 refine bY.2 ?_
 refine S.bP 0 rfl rfl ?_
 refine c7.2 ?_
 refine bE (fun hc => ?_) (fun hc => ?_)
 · have M := aY hc M
   cases M
   exact H _ _  S.bA
 · have M := aZ hc M
   have S := S.f1
   exact agO M S  H
def NG (v1 : al) (v12 : Bool)  : Option Bool :=
 bif v12 then (
 some true) else (
 some (decide (v1.aO = 28)))
def NH (v1 : al) (v8 : Bool)  : Option Bool :=
 bif v8 then (
 NG v1 true) else (
 NG v1 (decide (v1.aO = 27)))
def NI (x0 : al) : Option Bool :=
 bif (decide (x0.aO = 24)) then (
 NH x0 true) else (
 NH x0 (decide (x0.aO = 26)))
def xb (x0 : al) : Option Bool :=
(xC x0.aO).bind fun aJ =>
 some aJ.1.pE
abbrev agP (c : Cx) (R : Value → W) (r : Bool) : Prop := ∀ (g' h' : AH), Sep c g' h' [] → R (.bool r) h'
theorem afe {w0 : World} {g h : AH} {Q : CR → AH → Prop} {r : Bool} {x0 : al} (M : xb x0 = some r) (sg : Sub g h) (ok : h.Ok)  (H : agP ⟨g, h, []⟩ (fun v => Q (.ret v)) r) : WF PP w0 HL [(.agg ⟨[(vi x0.aO), (vi x0.fA), (vi x0.fB), (vi x0.fC)]⟩)] h Q := by
 refine YY _ ?_
 have S := Sep.start sg ok
 unfold PI
 unfold xb at M
 refine S.box [(vi x0.aO), (vi x0.fA), (vi x0.fB), (vi x0.fC)] rfl (aa rfl (aa rfl (aa rfl (aa rfl rfl)))) (fun jT h S => ?_)
 refine bY.2 ?_
 refine S.bP 0 rfl rfl ?_
 obtain ⟨aJ, im, M⟩ := bind_some M
 refine agy im S.sub S.ok (fun _ h  S1  => ?_)
 have S := S.dz S1
 refine (jd rfl).2 ?_
 refine (jd rfl).2 ?_
 refine S.alloc (l := [(vi 0), (vi 0), (vi 0), (vi 0), (vi 0), (vi 0), (.bool false)]) (aa rfl (aa rfl (aa rfl (aa rfl (aa rfl (aa rfl (aa rfl rfl))))))) (fun M3 h S => ?_)
 refine S.c9 [(vi aJ.1.gA.e0), (vi aJ.1.gA.e1), (vi aJ.1.gA.e2), (vi aJ.1.tf), (vi aJ.1.kv.e0), (vi aJ.1.kv.e1), (.bool aJ.1.pE)] [(vi aJ.1.gA.e0), (vi aJ.1.gA.e1), (vi aJ.1.gA.e2), (vi aJ.1.tf), (vi aJ.1.kv.e0), (vi aJ.1.kv.e1), (.bool aJ.1.pE)] rfl rfl (aa rfl (aa rfl (aa rfl (aa rfl (aa rfl (aa rfl (aa rfl rfl))))))) (Nat.le_of_ble_eq_true rfl) rfl (fun h S => ?_)
 refine bY.2 ?_
 refine S.bP 0 rfl rfl ?_
 cases M
 exact H _ _  S.bA
def Wa (N : Nat) (y4 : Int) (aka : List Int) (iN : Int → Option ((List Int))) : Option ((List Int)) :=
 iN (bD .i64 (y4 + 1))
def Bw (N : Nat) (x0 : List Int) (y4 : Int) (x1 : Int) (iN : Int → Option ((List Int))) : Option ((List Int)) :=
(ix x0 y4).bind fun dZ =>
 bif (decide (dZ = x1)) then (
 some x0) else (
 Wa N y4 x0 iN)
def Wb (N : Nat) (x1 : Int) (x0 : List Int)  : Option ((List Int)) :=
 gu (decide (x0.length + [x1].length ≤ 1048576)) (
 some (x0 ++ [x1]))
def agQ (N : Nat) (x0 : List Int) (x1 : Int) (y4 : Int) (iN : Int → Option ((List Int))) : Option ((List Int)) :=
 bif (decide (y4 < (x0.length : Int))) then (
 Bw N x0 y4 x1 iN) else (
 Wb N x1 x0)
def NJ (N : Nat) (x0 : List Int) (x1 : Int)  : Nat → Int → Option ((List Int))
 | 0, _ => none
 | n + 1, y4 => agQ N x0 x1 y4  (fun aq => NJ N x0 x1 n aq)
def xF (N : Nat) (x0 : List Int) (x1 : Int) : Option ((List Int)) :=
 NJ N x0 x1 N 0
def NK (N : Nat) (ar : List Int)  : Option ((List Int)) :=
 some ar
def FY (N : Nat) (v6 : al) (y8 : List Int)  : Option ((List Int)) :=
(FR v6).bind fun Wc =>
 bif Wc.2 then (
(xF N y8 Wc.1).bind fun pF =>
 NK N pF) else (
 NK N y8)
def NL (N : Nat) (x1 : Int) (v6 : al) (v24 : Bool)  : Option ((List Int)) :=
 bif v24 then (
 gu (decide (([] : List Int).length + [(bD .i64 (x1 + 1))].length ≤ 1048576)) (
 FY N v6 (([] : List Int) ++ [(bD .i64 (x1 + 1))]))) else (
 FY N v6 ([] : List Int))
def NM (N : Nat) (x0 : ah) (x1 : Int) : Option ((List Int)) :=
(ix x0.ab x1).bind fun aJ =>
(NI aJ).bind fun eC =>
 bif (!eC) then (
 NL N x1 aJ (decide ((bD .i64 (x1 + 1)) < (x0.ab.length : Int)))) else (
 NL N x1 aJ false)
def agR (N : Nat) (y3 : Int) (Wd : ah) (cg : Int → Option Int) : Option Int :=
 cg (bD .i64 (y3 + 1))
def We (N : Nat) (y3 : Int) (fb : Bool) (Wd : ah) (cg : Int → Option Int) : Option Int :=
 bif fb then (
 some y3) else (
 agR N y3 Wd cg)
def agS (N : Nat) (v1 : ah) (y3 : Int) (x1 : Int) (cg : Int → Option Int) : Option Int :=
(ix v1.ay y3).bind fun aJ =>
 bif (decide (aJ.dJ ≤ x1)) then (
(ix v1.ay y3).bind fun Bo =>
 We N y3 (decide (x1 < Bo.ed)) v1 cg) else (
 We N y3 false v1 cg)
def agT (N : Nat)   : Option Int :=
 some (-1)
def agU (N : Nat) (v1 : ah) (x1 : Int) (y3 : Int) (cg : Int → Option Int) : Option Int :=
 bif (decide (y3 < (v1.ay.length : Int))) then (
 agS N v1 y3 x1 cg) else (
 agT N )
def Bx (N : Nat) (v1 : ah) (x1 : Int)  : Nat → Int → Option Int
 | 0, _ => none
 | n + 1, y3 => agU N v1 x1 y3  (fun aq => Bx N v1 x1 n aq)
def FZ (N : Nat) (x0 : ah) (x1 : Int) : Option Int :=
 Bx N x0 x1 N 0
def NN (N : Nat) (y6 : List Int)  : Option ((List Int)) :=
 some y6
def NO (N : Nat) (v1 : ah) (v5 : Int) (v3 : List Int) (cH : Bool)  : Option ((List Int)) :=
 bif cH then (
(ix v1.ay v5).bind fun fw =>
(xF N v3 fw.dY).bind fun sN =>
 NN N sN) else (
 NN N v3)
def NP (N : Nat) (x0 : ah) (x1 : Int) : Option ((List Int)) :=
(NM N x0 x1).bind fun aJ =>
(FZ N x0 x1).bind fun dK =>
(ix x0.ab x1).bind fun eC =>
(xb eC).bind fun agV =>
 bif agV then (
 NO N x0 dK aJ (decide (0 ≤ dK))) else (
 NO N x0 dK aJ false)
def Wf (N : Nat) (v1 : ah) (x1 : Int)  : Option ((List Int)) :=
(NP N v1 x1).bind fun nb =>
 some nb
def NQ (N : Nat) (v1 : ah) (x1 : Int) (cH : Bool)  : Option ((List Int)) :=
 bif cH then (
 some ([] : List Int)) else (
 Wf N v1 x1)
def Wg (N : Nat) (x0 : ah) (x1 : Int) : Option ((List Int)) :=
(FX N x0).bind fun aJ =>
 bif (!aJ) then (
 NQ N x0 x1 true) else (
(qU x1 0 (bD .i64 ((x0.ab.length : Int) - 1))).bind fun kY =>
 NQ N x0 x1 (!kY))
def Wh (N : Nat) (v1 : ah) (x1 : Int)  : Option Int :=
(FZ N v1 x1).bind fun nb =>
 some nb
def NR (N : Nat) (v1 : ah) (x1 : Int) (cH : Bool)  : Option Int :=
 bif cH then (
 some (-1)) else (
 Wh N v1 x1)
def Wi (N : Nat) (x0 : ah) (x1 : Int) : Option Int :=
(FX N x0).bind fun aJ =>
 bif (!aJ) then (
 NR N x0 x1 true) else (
(qU x1 0 (bD .i64 ((x0.ab.length : Int) - 1))).bind fun kY =>
 NR N x0 x1 (!kY))
def F0 (N : Nat) (v1 : ah) (x1 : Int)  : Option Int :=
(xE N v1 x1).bind fun nb =>
 some nb
def By (N : Nat) (v1 : ah) (x1 : Int) (cH : Bool)  : Option Int :=
 bif cH then (
 some (-1)) else (
 F0 N v1 x1)
def As (N : Nat) (x0 : ah) (x1 : Int) : Option Int :=
(sY N x0).bind fun aJ =>
 bif (!aJ) then (
 By N x0 x1 true) else (
(oj x1 0 (bD .i64 ((x0.ab.length : Int) - 1))).bind fun kY =>
 By N x0 x1 (!kY))
abbrev NS (c : Cx) (R : Value → W) (r : Int) : Prop := ∀ (g' h' : AH), Sep c g' h' [] → R (vi r) h'
theorem agW {w0 : World} {c : Cx} {g h : AH} {E R : Value → W} {r : Int} {N : Nat} {v1 : ah} {x1 : Int} {au : Nat} {aE aG : Value}  (M : F0 N v1 x1 = some r) (S : Sep c g h [.bx au [(.string v1.aQ), (.string v1.aR), (vi v1.fArgs), (vi v1.aK), (vi v1.aL), aE, aG]]) (aI : ae al.rep 4 g aE v1.ab) (aS : ae ax.rep 3 g aG v1.ay)  (H : NS c R r) : HP w0 E R (av au 0) (vi x1) h := by
 unfold HP
 unfold F0 at M
 refine S.cK [(.string v1.aQ), (.string v1.aR), (vi v1.fArgs), (vi v1.aK), (vi v1.aL), aE, aG] 0 rfl rfl rfl (by decide) ?_
 obtain ⟨nb, MB, M⟩ := bind_some M
 refine V3 MB S.sub S.ok aI aS (fun _ h  S1  => ?_)
 have S := S.dz S1
 cases M
 exact H _ _  S.bA
theorem Wj {w0 : World} {c : Cx} {g h : AH} {E R : Value → W} {r : Int} {N : Nat} {v1 : ah} {x1 : Int} {cH : Bool} {au : Nat} {aE aG : Value}  (M : By N v1 x1 cH = some r) (S : Sep c g h [.bx au [(.string v1.aQ), (.string v1.aR), (vi v1.fArgs), (vi v1.aK), (vi v1.aL), aE, aG]]) (aI : ae al.rep 4 g aE v1.ab) (aS : ae ax.rep 3 g aG v1.ay)  (H : NS c R r) : HQ w0 E R (av au 0) (vi x1) (.bool cH) h := by
 unfold HQ
 unfold By at M
 refine bE (fun hc => ?_) (fun hc => ?_)
 · have M := aY hc M
   cases M
   exact H _ _  S.bA
 · have M := aZ hc M
   exact agW M S aI aS H
theorem ae5 {w0 : World} {g h : AH} {Q : CR → AH → Prop} {r : Int} {N : Nat} {x0 : ah} {x1 : Int} {ct cu : Value} (M : As N x0 x1 = some r) (sg : Sub g h) (ok : h.Ok) (bU : ae al.rep 4 g ct x0.ab) (cy : ae ax.rep 3 g cu x0.ay) (H : NS ⟨g, h, []⟩ (fun v => Q (.ret v)) r) : WF PP w0 HS [(.agg ⟨[(.string x0.aQ), (.string x0.aR), (vi x0.fArgs), (vi x0.aK), (vi x0.aL), ct, cu]⟩), (vi x1)] h Q := by
 refine Y9 _ _ ?_
 have S := Sep.start sg ok
 unfold PN
 unfold As at M
 refine S.box [(.string x0.aQ), (.string x0.aR), (vi x0.fArgs), (vi x0.aK), (vi x0.aL), ct, cu] rfl (aa rfl (aa rfl (aa rfl (aa rfl (aa rfl (aa bU.one (aa cy.one rfl))))))) (fun jT h S => ?_)
 refine S.cK [(.string x0.aQ), (.string x0.aR), (vi x0.fArgs), (vi x0.aK), (vi x0.aL), ct, cu] 0 rfl rfl rfl (by decide) ?_
 obtain ⟨aJ, im, M⟩ := bind_some M
 refine FO im S.sub S.ok bU cy (fun _ h  S1  => ?_)
 have S := S.dz S1
 refine eQ.2 ?_
 cases hc : (!aJ)
 · have M := aZ hc M
   refine aD rfl ?_
   refine aD rfl ?_
   refine bY.2 ?_
   refine aD rfl ?_
   refine S.bP 0 rfl rfl ?_
   refine aD rfl ?_
   refine bU.len ?_
   refine aD rfl ?_
   refine mY.2 ?_
   refine aD rfl ?_
   obtain ⟨kY, AQ, M⟩ := bind_some M
   refine ve AQ S.sub S.ok (fun _ h  S1  => ?_)
   have S := S.dz S1
   refine aD rfl ?_
   refine eQ.2 ?_
   refine bW.2 ?_
   exact Wj M S bU cy H
 · have M := aY hc M
   refine aC (by decide) ?_
   refine aC (by decide) ?_
   refine aC (by decide) ?_
   refine aC (by decide) ?_
   refine aC (by decide) ?_
   refine aC (by decide) ?_
   refine aC (by decide) ?_
   refine bW.2 ?_
   exact Wj M S bU cy H
def F4 (N : Nat) (y3 : Int) (cg : Int → Option Int) : Option Int :=
 cg (bD .i64 (y3 + 1))
def Bz (N : Nat) (x0 : List Int) (y3 : Int) (x1 : Int) (cg : Int → Option Int) : Option Int :=
(ix x0 y3).bind fun dZ =>
 bif (decide (x1 = dZ)) then (
 some y3) else (
 F4 N y3 cg)
def F5 (N : Nat)   : Option Int :=
 some (-1)
def NU (N : Nat) (v1 : Int) (x0 : List Int) (x1 : Int) (y3 : Int) (cg : Int → Option Int) : Option Int :=
 bif (decide (y3 < v1)) then (
 Bz N x0 y3 x1 cg) else (
 F5 N )
def BA (N : Nat) (v1 : Int) (x0 : List Int) (x1 : Int)  : Nat → Int → Option Int
 | 0, _ => none
 | n + 1, y3 => NU N v1 x0 x1 y3  (fun aq => BA N v1 x0 x1 n aq)
def BB (N : Nat) (x0 : List Int) (x1 : Int) : Option Int :=
 BA N (x0.length : Int) x0 x1 N 0
abbrev xG (c : Cx) (R : Value → W) (r : Int) : Prop := ∀ (g' h' : AH), Sep c g' h' [] → R (vi r) h'
theorem agX {w0 : World} {c : Cx} {g h : AH} {E R : Value → W} {r : Int} {N : Nat} {y3 : Int} {k2 : Value → W} {cg : Int → Option Int} {fO : AH} (M : F4 N y3 cg = some r) (S : Sep c g h [])  (jV : Sub fO g) (jW : ∀ {aq : Int} {g2 h2 : AH}, cg aq = some r → Sub fO g2 → Sep c g2 h2 [] → k2 (vi aq) h2) (H : xG c R r) : G3 w0 E R (vi y3) k2 h := by
 unfold G3
 unfold F4 at M
 refine lE.2 ?_
 exact jW M jV S
theorem agY {w0 : World} {c : Cx} {g h : AH} {E R : Value → W} {r : Int} {N : Nat} {x0 : List Int} {y3 x1 : Int} {bC : Value} {k2 : Value → W} {cg : Int → Option Int} {fO : AH} (M : Bz N x0 y3 x1 cg = some r) (S : Sep c g h []) (bK : ae (rI .i64) 1 g bC x0) (jV : Sub fO g) (jW : ∀ {aq : Int} {g2 h2 : AH}, cg aq = some r → Sub fO g2 → Sep c g2 h2 [] → k2 (vi aq) h2) (H : xG c R r) : G4 w0 E R bC (vi y3) (vi x1) k2 h := by
 unfold G4
 unfold Bz at M
 obtain ⟨dZ, jS, M⟩ := bind_some M
 refine ae.idx bK jS (fun xa Fs vs Ml uM rp => ?_)
 cases rp
 refine S.dN (uM 0 _ rfl) ?_
 refine c7.2 ?_
 refine bE (fun hc => ?_) (fun hc => ?_)
 · have M := aY hc M
   cases M
   exact H _ _  S.bA
 · have M := aZ hc M
   exact agX M S jV jW H
theorem agZ {w0 : World} {c : Cx} {g h : AH} {E R : Value → W} {r : Int} {N : Nat}   (M : F5 N  = some r) (S : Sep c g h [])   (H : xG c R r) : G2 w0 E R  h := by
 unfold G2
 unfold F5 at M
 cases M
 exact H _ _  S.bA
theorem ag0 {w0 : World} {c : Cx} {g h : AH} {E R : Value → W} {r : Int} {N : Nat} {v1 : Int} {x0 : List Int} {x1 y3 : Int} {bC : Value} {k2 : Value → W} {cg : Int → Option Int} {fO : AH} (M : NU N v1 x0 x1 y3 cg = some r) (S : Sep c g h []) (bK : ae (rI .i64) 1 g bC x0) (jV : Sub fO g) (jW : ∀ {aq : Int} {g2 h2 : AH}, cg aq = some r → Sub fO g2 → Sep c g2 h2 [] → k2 (vi aq) h2) (H : xG c R r) : Cm w0 E R (vi v1) bC (vi x1) k2 (vi y3) h := by
 unfold Cm
 unfold NU at M
 refine iI.2 ?_
 refine bE (fun hc => ?_) (fun hc => ?_)
 · have M := aY hc M
   exact agY M S bK jV jW H
 · have M := aZ hc M
   exact agZ M S  H
theorem ag1 {w0 : World} {c : Cx} {E R : Value → W} {r : Int} {N : Nat} {v1 : Int} {x0 : List Int} {x1 : Int} {bC : Value}   (H : xG c R r) : ∀ (n : Nat) {y3 : Int} {g h : AH}, BA N v1 x0 x1 n y3 = some r → Sep c g h [] → ae (rI .i64) 1 g bC x0 → gr (α := Value) (fun k a => Cm w0 E R (vi v1) bC (vi x1) k a) n (vi y3) h := by
 intro n
 induction n with
 | zero =>
  intro y3  g h M S bK
  unfold BA at M; cases M
 | succ n ih =>
  intro y3  g h M S bK
  exact ag0 M S bK  (Sub.refl g) (fun M2 sub S2  => ih M2 S2 (ae.mono bK (gK .i64) sub) ) H
theorem ag2 {w0 : World} {g h : AH} {Q : CR → AH → Prop} {r : Int} {N : Nat} {x0 : List Int} {x1 : Int} {bC : Value} (M : BB N x0 x1 = some r) (sg : Sub g h) (ok : h.Ok) (bK : ae (rI .i64) 1 g bC x0) (H : xG ⟨g, h, []⟩ (fun v => Q (.ret v)) r) : WF PP w0 G5 [bC, (vi x1)] h Q := by
 refine X3 _ _ ?_
 have S := Sep.start sg ok
 unfold Pe
 unfold BB at M
 refine bK.len ?_
 exact ⟨N, ag1  H _ M S bK ⟩
def BC (N : Nat) (x0 : List Int) (x1 : Int) : Option Bool :=
(BB N x0 x1).bind fun dZ =>
 some (decide (0 ≤ dZ))
abbrev ag3 (c : Cx) (R : Value → W) (r : Bool) : Prop := ∀ (g' h' : AH), Sep c g' h' [] → R (.bool r) h'
theorem ag4 {w0 : World} {g h : AH} {Q : CR → AH → Prop} {r : Bool} {N : Nat} {x0 : List Int} {x1 : Int} {bC : Value} (M : BC N x0 x1 = some r) (sg : Sub g h) (ok : h.Ok) (bK : ae (rI .i64) 1 g bC x0) (H : ag3 ⟨g, h, []⟩ (fun v => Q (.ret v)) r) : WF PP w0 G6 [bC, (vi x1)] h Q := by
 refine X5 _ _ ?_
 have S := Sep.start sg ok
 unfold Pf
 unfold BC at M
 obtain ⟨dZ, jS, M⟩ := bind_some M
 refine ag2 jS S.sub S.ok bK (fun _ h  S1  => ?_)
 have S := S.dz S1
 refine pe.2 ?_
 cases M
 exact H _ _  S.bA
end
end Go.Ve.T
namespace Go.Ve
open Go.RowKit
noncomputable section
section
variable {h : AH} {R : Value → AH → Prop}
end
end
end Go.Ve
namespace Go.Ve.T
open Go.Ve Go.Proofs
noncomputable section
set_option maxRecDepth 10000
section
variable {w0 : World} {g h : AH} {Q : CR → AH → Prop}
abbrev WQ : Int × Int → List Value := fun p => [vi p.1, vi p.2]
def ti (N : Nat) (x0 : ah) (x1 : Int) : Option (List (Int × Int)) :=
 (ix x0.ab x1).bind fun i =>
 (vg N i).bind fun ps =>
 gu (decide (ps.length ≤ 1000)) (
 (xE N x0 x1).bind fun q =>
 let l := (bif !(cw i.aO).jA && decide (bD .i64 (x1 + 1) < (x0.ab.length : Int)) then [(bD .i64 (x1 + 1), 0)] else []) ++ ps.map (fun p => (p, 1))
 bif (cw i.aO).jk && decide (0 ≤ q) then (ix x0.ay q).bind fun d => some (l ++ [(d.dY, 2)]) else some l)
abbrev xQ (u : ah) (w1 w2 : Value) : List Value := [.string u.aQ, .string u.aR, vi u.fArgs, vi u.aK, vi u.aL, w1, w2]
theorem ais (N : Nat) (u : ah) (at_ : Int) (w1 w2 : Value) (bu ba : Nat) {l : List (Int × Int)} (r1 : g.aW bu 0 (xQ u w1 w2)) (r2 : g.aW ba 0 [vi at_]) (F1 : ae al.rep 4 g w1 u.ab) (F2 : ae ax.rep 3 g w2 u.ay) (M : ti N u at_ = some l) :
 sX PP w0 g (.func (.func Ci) ⟨[]⟩ ⟨[av bu 0, av ba 0]⟩) WQ l := by
 refine ⟨rfl, _, [], [av bu 0, av ba 0], rfl, fun yv Inv Stop Q g1 h nq hK hI step I0 fin stop => ?_⟩
 unfold ti at M
 obtain ⟨i, hi, M⟩ := bind_some M
 obtain ⟨ps, ew, M⟩ := bind_some M
 obtain ⟨ait, M⟩ := ml M
 rw [decide_eq_true_eq] at ait
 obtain ⟨q, hq, M⟩ := bind_some M
 have r1 := nq.aW r1
 have r2 := nq.aW r2
 have F1 := F1.mono al.mono nq
 have F2 := F2.mono ax.mono nq
 clear nq
 generalize g1 = g at *
 show WF PP w0 Ci [yv, av bu 0, av ba 0] h Q
 have go : ∀ {g h : AH} {k : Nat}, Inv k g h → Sep ⟨g, h, []⟩ g h [] := fun hh => Sep.start (hI _ _ _ hh).1 (hI _ _ _ hh).2
 refine XR _ _ _ ?_
 unfold O8
 have S := go I0
 refine bY.2 ?_
 refine S.dN (r1 5 _ rfl) ?_
 refine S.dN (r2 0 _ rfl) ?_
 refine ae.idx F1 hi (fun b o vs E rr rp => ?_)
 cases rp
 refine S.oc rr rfl (by decide) ?_
 refine S.alloc (l := [vi 0, vi 0, vi 0, vi 0]) rfl (fun b6 h S => ?_)
 refine S.c9 [vi i.aO, vi i.fA, vi i.fB, vi i.fC] [vi i.aO, vi i.fA, vi i.fB, vi i.fC] rfl rfl rfl (Nat.le_of_ble_eq_true rfl) rfl (fun h S => ?_)
 refine bY.2 ?_
 refine S.bP 0 rfl rfl ?_
 refine Bc (M := rfl) (sg := S.sub) (ok := S.ok) (H := fun _ h S1 => ?_)
 have S := S.dz S1
 refine (jd rfl).2 ?_
 refine (jd rfl).2 ?_
 generalize hf : cw i.aO = f at *
 refine S.alloc (l := [.string ⟨⟨[]⟩⟩, vi 0, vi 0, vi 0, vi 0, vi 0, vi 0, .bool false, .bool false]) rfl (fun WS h S => ?_)
 refine S.c9 f.cells f.cells rfl rfl rfl (Nat.le_of_ble_eq_true rfl) rfl (fun h S => ?_)
 obtain ⟨g2, sg, S, xR⟩ := S.pA
 obtain ⟨g3, xS, S, r6⟩ := S.pA
 have I1 := hK _ _ _ _ _ I0 S
 have xR := xS.aW xR
 have sg := sg.trans xS
 have r1 := sg.aW r1
 have r2 := sg.aW r2
 have F1 := F1.mono al.mono sg
 have F2 := F2.mono ax.mono sg
 have fin : ∀ v g' h', Sub g3 g' → Inv l.length g' h' → Q (.ret v) h' := fun v g' h' s => fin v g' h' (sg.trans s)
 clear I0 S S1 sg xS
 have last : ∀ (g h : AH) (l0 : List (Int × Int)), Sub g3 g → Inv l0.length g h → (bif f.jk && decide (0 ≤ q) then (ix u.ay q).bind fun d => some (l0 ++ [(d.dY, 2)]) else some l0) = some l →
  GN w0 (fun v h => Q (.az v) h) (fun v h => Q (.ret v) h) (av bu 0) (av ba 0) (av WS 0) yv h := by
  intro g h l0 s3 Ik M
  have S0 := go Ik
  have r1 := s3.aW r1
  have xR := s3.aW xR
  have F2 := F2.mono ax.mono s3
  unfold GN
  refine S0.oc (l := xQ u w1 w2) r1 rfl (by decide) ?_
  refine S0.dN (s3.aW r2 0 _ rfl) ?_
  refine V3 hq S0.sub S0.ok (F1.mono al.mono s3) F2 (fun _ h1 S1 => ?_)
  have S2 := S0.dz S1
  have Ik := hK _ _ _ _ _ Ik S2
  refine bY.2 ?_
  refine S2.dN (xR 7 _ rfl) ?_
  cases hr : f.jk with
  | false =>
   rw [hr] at M
   cases M
   refine aC (by decide) ?_
   refine aC (by decide) ?_
   refine bW.2 ?_
   unfold GM
   refine qQ ?_
   exact fin _ _ _ s3 Ik
  | true =>
   rw [hr, Bool.true_and] at M
   refine aD rfl ?_
   refine aD rfl ?_
   refine pe.2 ?_
   refine bW.2 ?_
   unfold GM
   cases h0 : decide (0 ≤ q) with
   | false =>
    rw [h0] at M
    cases M
    refine qQ ?_
    exact fin _ _ _ s3 Ik
   | true =>
    rw [h0] at M
    obtain ⟨d, hd, M⟩ := bind_some (aY rfl M)
    cases M
    refine vd ?_
    refine bY.2 ?_
    refine S2.dN (r1 6 _ rfl) ?_
    refine ae.idx F2 hd (fun b o vs E rr rp => ?_)
    cases rp
    refine bY.2 ?_
    refine S2.dN (rr 2 _ rfl) ?_
    refine step l0.length (d.dY, 2) g h1 _ _ (by simp) Ik (fun g2 h2 sb I2 => ?_) (fun h2 s2 => stop _ _ s2)
    refine fin _ _ _ (s3.trans sb) ?_
    simpa using I2
 have mid : ∀ (g h : AH) (l0 : List (Int × Int)), Sub g3 g → Inv l0.length g h → (bif f.jk && decide (0 ≤ q) then (ix u.ay q).bind fun d => some (l0 ++ ps.map (fun p => (p, 1)) ++ [(d.dY, 2)]) else some (l0 ++ ps.map (fun p => (p, 1)))) = some l →
  GO w0 (fun v h => Q (.az v) h) (fun v h => Q (.ret v) h) (av b6 0) yv (av bu 0) (av ba 0) (av WS 0) h := by
  intro g h l0 s3 Ik M
  have S0 := go Ik
  have pre : ∃ m, l = l0 ++ ps.map (fun p => (p, 1)) ++ m := by
   cases hc : f.jk && decide (0 ≤ q) with
   | true => rw [hc] at M; obtain ⟨d, _, M⟩ := bind_some (aY rfl M); cases M; exact ⟨_, rfl⟩
   | false => rw [hc] at M; cases M; exact ⟨[], by simp⟩
  obtain ⟨m, hl⟩ := pre
  have aiu : ∀ k p, ps[k]? = some p → l[l0.length + k]? = some (p, 1) := fun k p hp => by
   have hk : k < ps.length := (List.getElem?_eq_some_iff.1 hp).1
   rw [hl, List.getElem?_append_left (by simp; omega), List.getElem?_append_right (by omega), Nat.add_sub_cancel_left, List.getElem?_map, hp]; rfl
  unfold GO
  refine S0.oc (l := [vi i.aO, vi i.fA, vi i.fB, vi i.fC]) (s3.aW r6) rfl (by decide) ?_
  refine VN ew S0.sub S0.ok (fun g1 h1 v30 S1 F3 => ?_)
  have S2 := S0.call S1
  have Ik := hK _ _ _ _ _ Ik S2
  refine F3.len ?_
  refine adb (fun v h' => ∃ (k : Nat) (g' : AH), v = vi k ∧ k ≤ ps.length ∧ Sub g1 g' ∧ Inv (l0.length + k) g' h') (fun v _ => match v with | .int _ n => (ps.length - n).toNat | _ => 0) ?_ ⟨0, g1, rfl, Nat.zero_le _, .refl _, Ik⟩
  rintro v h' kk ⟨k, g', rfl, hk, sb, Ik⟩ hkk
  unfold O7
  refine iI.2 ?_
  by_cases bz : k < ps.length
  · rw [decide_eq_true (show (k : Int) < (ps.length : Int) by omega)]
    refine vd ?_
    unfold O6
    have F3' := F3.mono (gK .i64) sb
    refine ae.idx F3' (x := ps[k]) (by rw [jU]; exact List.getElem?_eq_getElem bz) (fun b o vs E rr rp => ?_)
    cases rp
    have S3 := go Ik
    refine S3.dN (rr 0 _ rfl) ?_
    refine step (l0.length + k) (ps[k], 1) g' h' _ _ (aiu k _ (List.getElem?_eq_getElem bz)) Ik (fun g2 h2 Ow I2 => ?_) (fun h2 s2 => ?_)
    · refine eQ.2 ?_
      refine qQ ?_
      unfold O5
      refine lE.2 ?_
      rw [lC (by omega) (by omega)]
      refine hkk _ _ ⟨k + 1, g2, by simp, bz, sb.trans Ow, by rw [← Nat.add_assoc]; exact I2⟩ ?_
      show ((ps.length : Int) - ((k : Int) + 1)).toNat < ((ps.length : Int) - (k : Int)).toNat
      omega
    · refine eQ.2 ?_
      refine vd ?_
      exact stop _ _ s2
  · rw [decide_eq_false (show ¬ (k : Int) < (ps.length : Int) by omega)]
    refine qQ ?_
    have e : k = ps.length := by omega
    subst e
    refine last g' h' (l0 ++ ps.map (fun p => (p, 1))) ((s3.trans S1.bT).trans sb) ?_ M
    simpa using Ik
 refine bY.2 ?_
 have S := go I1
 refine S.dN (xR 8 _ rfl) ?_
 refine eQ.2 ?_
 cases he : f.jA with
 | true =>
  rw [he] at M
  refine aC (by decide) ?_
  refine aC (by decide) ?_
  refine aC (by decide) ?_
  refine aC (by decide) ?_
  refine aC (by decide) ?_
  refine aC (by decide) ?_
  refine bW.2 ?_
  unfold GP
  refine aC (by decide) ?_
  refine aC (by decide) ?_
  refine aC (by decide) ?_
  refine aC (by decide) ?_
  refine aC (by decide) ?_
  refine bW.2 ?_
  unfold xY
  refine qQ ?_
  exact mid g3 h [] (.refl _) I1 M
 | false =>
  rw [he] at M
  refine aD rfl ?_
  refine S.dN (r2 0 _ rfl) ?_
  refine aD rfl ?_
  refine lE.2 ?_
  refine aD rfl ?_
  refine bY.2 ?_
  refine aD rfl ?_
  refine S.dN (r1 5 _ rfl) ?_
  refine aD rfl ?_
  refine F1.len ?_
  refine aD rfl ?_
  refine iI.2 ?_
  refine bW.2 ?_
  unfold GP
  cases hn : decide (bD .i64 (at_ + 1) < (u.ab.length : Int)) with
  | false =>
   rw [hn] at M
   refine aC (by decide) ?_
   refine aC (by decide) ?_
   refine aC (by decide) ?_
   refine aC (by decide) ?_
   refine aC (by decide) ?_
   refine bW.2 ?_
   unfold xY
   refine qQ ?_
   exact mid g3 h [] (.refl _) I1 M
  | true =>
   rw [hn] at M
   refine aD rfl ?_
   refine aD rfl ?_
   refine S.dN (r2 0 _ rfl) ?_
   refine aD rfl ?_
   refine lE.2 ?_
   refine aD rfl ?_
   have h0 : l[0]? = some (bD .i64 (at_ + 1), 0) := by
    cases hc : f.jk && decide (0 ≤ q) with
    | true => rw [hc] at M; obtain ⟨d, _, M⟩ := bind_some (aY rfl M); cases M; rfl
    | false => rw [hc] at M; cases M; rfl
   refine step 0 (bD .i64 (at_ + 1), 0) g3 h _ _ h0 I1 (fun g2 h2 Ow I2 => ?_) (fun h2 s2 => ?_)
   · refine aD rfl ?_
     refine eQ.2 ?_
     refine bW.2 ?_
     unfold xY
     refine qQ ?_
     exact mid g2 h2 [(bD .i64 (at_ + 1), 0)] Ow I2 M
   · refine aD rfl ?_
     refine eQ.2 ?_
     refine bW.2 ?_
     unfold xY
     refine vd ?_
     exact stop _ _ s2
theorem NY {r : List (Int × Int)} (N : Nat) (x0 : ah) (x1 : Int) (ct cu : Value) (sg : Sub g h) (ok : h.Ok) (bU : ae al.rep 4 g ct x0.ab) (cy : ae ax.rep 3 g cu x0.ay) (M : ti N x0 x1 = some r)
 (H : ∀ (g' h' : AH) (w1 : Value), Sep ⟨g, h, []⟩ g' h' [] → sX PP w0 g' w1 WQ r → Q (.ret w1) h') : WF PP w0 x7 [.agg ⟨xQ x0 ct cu⟩, vi x1] h Q := by
 have S := Sep.start sg ok
 refine XT _ _ ?_
 unfold O9
 refine S.box (xQ x0 ct cu) rfl (aa rfl (aa rfl (aa rfl (aa rfl (aa rfl (aa bU.one (aa cy.one rfl))))))) (fun b1 h S => ?_)
 refine S.box [vi x1] rfl rfl (fun b2 h S => ?_)
 refine (Eo (by simp)).2 ?_
 obtain ⟨g2, og, S, r2⟩ := S.pA
 obtain ⟨g3, B1, S, r1⟩ := S.pA
 have xS := og.trans B1
 exact H g3 h _ S (ais N x0 x1 ct cu b1 b2 r1 (B1.aW r2) (bU.mono al.mono xS) (cy.mono ax.mono xS) M)
end
end
end Go.Ve.T
namespace Go.Ve.T
open Go.Ve Go.Proofs
noncomputable section
set_option maxRecDepth 10000
def kz (w0 : World) (g : AH) (fv : Value) (f : Int → Int → Int → Option Bool) : Prop := dR fv = true ∧ ∀ (a0 : Int) (a1 : Int) (a2 : Int) (r : Bool) (E K : Value → W) (g2 h2 : AH), Sub g g2 → Sub g2 h2 → h2.Ok → f a0 a1 a2 = some r → (∀ (g' h' : AH), Sep ⟨g2, h2, []⟩ g' h' [] → K (.bool r) h') → dy PP w0 [fv, (vi a0), (vi a1), (vi a2)] E K h2
theorem kz.mono {w0 : World} {g g' : AH} {fv : Value} {f : Int → Int → Int → Option Bool} (H : kz w0 g fv f) (S : Sub g g') : kz w0 g' fv f := ⟨H.1, fun a0 a1 a2 r E K g2 h2 s1 => H.2 a0 a1 a2 r E K g2 h2 (Sub.trans S s1)⟩
def BD {ρ : Type} (N : Nat) (v3 : List Int) (lO : ah) (ar : Int) (aN : Int) (jX : Fl → (List Int) → Option ρ) : Option ρ :=
(BC N v3 ar).bind fun iq =>
 bif (!iq) then (
 gu (decide (v3.length + [ar].length ≤ 1048576)) (
 jX .go (v3 ++ [ar]))) else (
 jX .go v3)
def NV (N : Nat) (v3 : List Int)  : Option ((List Int)) :=
 some v3
def BE (N : Nat) (v1 : ah) (x1 : Int)  : Option ((List Int)) :=
(ti N v1 x1).bind fun dK =>
(oh (fun (s : (List Int)) (x : Int × Int) => BD N s v1 x.1 x.2 (fun f m0 => some (m0, f))) dK ([] : List Int)).bind fun F6 =>
 FH F6.2 (
 NV N F6.1) (
 none) (fun _ => none)
def BF (N : Nat) (v1 : ah) (x1 : Int) (iz : Bool)  : Option ((List Int)) :=
 bif iz then (
 some ([] : List Int)) else (
 BE N v1 x1)
def Au (N : Nat) (x0 : ah) (x1 : Int) : Option ((List Int)) :=
(sY N x0).bind fun aJ =>
 bif (!aJ) then (
 BF N x0 x1 true) else (
(oj x1 0 (bD .i64 ((x0.ab.length : Int) - 1))).bind fun kY =>
 BF N x0 x1 (!kY))
abbrev F7 (c : Cx) (R : Value → W) (r : (List Int)) : Prop := ∀ (g' h' : AH) (w1 : Value), Sep c g' h' [] → ae (rI .i64) 1 g' w1 r → R w1 h'
theorem ag5 {ρ : Type} {w0 : World} {c : Cx} {g h : AH} {E R : Value → W} {r : ρ} {N : Nat} {v3 : List Int} {lO : ah} {ar aN : Int} {fP : Nat} {eF : Value} {pG : List (List Value)} {Wl : Nat} {NW NX : Value} {n_ : Nat} {o_ : LO} {d_ : List Nat} {jX : Fl → (List Int) → Option ρ} {tj : AH} (M : BD N v3 lO ar aN jX = some r) (S : Sep c g h [.lp n_ o_ .ready none, .ds d_, .bx fP [eF], .sl 3 1 eF pG, .bx Wl [(.string lO.aQ), (.string lO.aR), (vi lO.fArgs), (vi lO.aK), (vi lO.aL), NW, NX]]) (vo : aw ((rI .i64) g) pG v3) (akb : ae al.rep 4 g NW lO.ab) (akc : ae ax.rep 3 g NX lO.ay) (tk : Sub tj g) (tl : ∀ {f : Fl} {Wm : List Int} {Wn : Value} {Wo : List (List Value)} {g2 h2 : AH}, jX f Wm = some r → Sub tj g2 → Sep c g2 h2 [.lp n_ o_ f.st f.pd, .ds d_, .bx fP [Wn], .sl 3 1 Wn Wo, .bx Wl [(.string lO.aQ), (.string lO.aR), (vi lO.fArgs), (vi lO.aK), (vi lO.aL), NW, NX]] → aw ((rI .i64) g2) Wo Wm → R (.bool f.on) h2) : Co w0 E R (av fP 0) o_ n_ (vi ar) (vi aN) h := by
 unfold Co
 unfold BD at M
 refine S.pM ?_
 refine S.lS (fun h S => ?_)
 refine S.bP 2 rfl rfl ?_
 have S := S.f3
 obtain ⟨akd, sq, uq, nn, bq⟩ := S.afG vo (gK .i64)
 obtain ⟨iq, uR, M⟩ := bind_some M
 refine ag4 uR uq S.ok nn (fun _ h  S1  => ?_)
 have S := bq _ _ S1
 refine eQ.2 ?_
 refine bE (fun hc => ?_) (fun hc => ?_)
 · have M := aY hc M
   refine S.bP 3 rfl rfl ?_
   refine S.uX [[(vi ar)]] (cq (m := [(vi ar)]) (l2 := [(vi ar)]) rfl rfl (Nat.le_of_ble_eq_true rfl) rfl rfl) rfl (by decide) (u9 rfl uZ) (aa rfl rfl) (fun V6 h S => ?_)
   have qX : aw ((rI .i64) g) [[(vi ar)]] [ar] := (aw.push aw.nil (show (rI .i64) g [(vi ar)] ar from rfl))
   have S := S.f1
   obtain ⟨NC, M⟩ := ml M
   refine S.app (S.rd 1 rfl) (by rw [vo.1, qX.1]; exact NC) (by decide) rfl (nh (pB .i64) qX) (nh (pB .i64) vo) (fun ND h S => ?_)
   have NF : aw ((rI .i64) g) (pG ++ [[(vi ar)]]) (v3 ++ [ar]) := aw.append vo qX
   have S := S.f4
   refine S.c9 [ND] [ND] (nX (S.ni 1 rfl)) rfl (aa (S.ni 1 rfl) rfl) (Nat.le_of_ble_eq_true rfl) rfl (fun h S => ?_)
   have S := S.f3
   refine S.iT (fun h S => ?_)
   have S := S.f5
   have S := S.f3
   have S := S.f3
   have S := S.f5
   have S := S.f4
   have S := S.t5
   exact tl M tk S NF
 · have M := aZ hc M
   have S := S.f1
   refine S.iT (fun h S => ?_)
   have S := S.f4
   have S := S.f2
   have S := S.f4
   have S := S.f4
   have S := S.f4
   exact tl M tk S vo
theorem ag6 {w0 : World} {c : Cx} {g h : AH} {E R : Value → W} {r : (List Int)} {N : Nat} {v3 : List Int} {fP : Nat} {eF : Value} {pG : List (List Value)} {d4 : List Nat}  (M : NV N v3 = some r) (S : Sep c g h [.bx fP [eF], .sl 3 1 eF pG, .ds d4]) (vo : aw ((rI .i64) g) pG v3)  (H : F7 c R r) : Cn w0 E R (av fP 0) d4 h := by
 unfold Cn
 unfold NV at M
 refine S.bP 0 rfl rfl ?_
 have S := S.f2
 refine S.iS (fun h S => ?_)
 have S := S.f1
 obtain ⟨g, sg, S, ag7⟩ := S.fz vo (gK .i64)
 cases M
 exact H _ _ eF S.bA ag7
theorem ag8 {w0 : World} {c : Cx} {g h : AH} {E R : Value → W} {r : (List Int)} {N : Nat} {v1 : ah} {x1 : Int} {au : Nat} {aE aG : Value} {d2 : List Nat}  (M : BE N v1 x1 = some r) (S : Sep c g h [.bx au [(.string v1.aQ), (.string v1.aR), (vi v1.fArgs), (vi v1.aK), (vi v1.aL), aE, aG], .ds d2]) (aI : ae al.rep 4 g aE v1.ab) (aS : ae ax.rep 3 g aG v1.ay)  (H : F7 c R r) : Cp w0 E R (av au 0) (vi x1) d2 h := by
 unfold Cp
 unfold BE at M
 refine S.alloc (l := [cP]) (aa rfl rfl) (fun Wp h S => ?_)
 refine S.cK [(.string v1.aQ), (.string v1.aR), (vi v1.fArgs), (vi v1.aK), (vi v1.aL), aE, aG] 1 rfl rfl rfl (by decide) ?_
 obtain ⟨dK, mo, M⟩ := bind_some M
 refine NY N v1 x1 aE aG S.sub S.ok aI aS mo (fun g h w_9 S1 NZ => ?_)
 have aI := ae.mono aI al.mono S1.bT
 have aS := ae.mono aS ax.mono S1.bT
 have S := S.na S1
 have S := S.AS 3 1
 have S := S.f2
 have S := S.f1
 have S := S.f2
 have S := S.f3
 obtain ⟨F6, Nj, M⟩ := bind_some M
 refine MW (fun (s : (List Int)) (x : Int × Int) => BD N s v1 x.1 x.2 (fun f m0 => some (m0, f))) (fun (s : (List Int)) (g h : AH) (Γ : List Ob) => ∃ (eF : Value) (pG : List (List Value)), Γ = [.bx Wp [eF], .sl 3 1 eF pG, .bx au [(.string v1.aQ), (.string v1.aR), (vi v1.fArgs), (vi v1.aK), (vi v1.aL), aE, aG]] ∧ aw ((rI .i64) g) pG s ∧ ae al.rep 4 g aE v1.ab ∧ ae ax.rep 3 g aG v1.ay) NZ (fun s g h Γ g' h' hd sb => by obtain ⟨u0, u1, e, z0, z1, z2⟩ := hd; exact ⟨u0, u1, e, aw.mono z0 (fun _ _ hh => (gK .i64) _ _ _ _ sb hh), ae.mono z1 al.mono sb, ae.mono z2 ax.mono sb⟩) S ⟨cP, [], rfl, (aw.nil (R := (rI .i64) g)), aI, aS⟩ Nj (fun lo n q s x s2 f R g2 h2 Γ2 sub S D1 bm kk => ?_) (fun ny g h Γ2 sg S D1 => ?_)
 · obtain ⟨eF, pG, rfl, ag9, Wq, Wr⟩ := D1
   show Co w0 lT R (av Wp 0) lo n (vi x.1) (vi x.2) h2
   exact ag5 bm S ag9 Wq Wr (Sub.refl g2) (fun e sb S3 aha => by cases e; exact kk _ _ _ sb S3 ⟨_, _, rfl, aha, (ae.mono Wq al.mono sb), (ae.mono Wr ax.mono sb)⟩)
 · obtain ⟨ake, akf, rfl, ahb, _, _⟩ := D1
   have aI := ae.mono aI al.mono sg
   have aS := ae.mono aS ax.mono sg
   have NZ := sX.mono NZ sg
   cases hf : F6.2 with
   | go =>
    rw [hf] at M
    have M := VJ M
    refine MU ?_
    have S := S.f2
    have S := S.f2
    have S := S.t3
    exact ag6 M S ahb H
   | ret =>
    rw [hf] at M
    have M := VK M
    refine VL ?_
    cases M
   | ex j =>
    rw [hf] at M
    cases M
theorem Ws {w0 : World} {c : Cx} {g h : AH} {E R : Value → W} {r : (List Int)} {N : Nat} {v1 : ah} {x1 : Int} {iz : Bool} {au : Nat} {aE aG : Value}  (M : BF N v1 x1 iz = some r) (S : Sep c g h [.bx au [(.string v1.aQ), (.string v1.aR), (vi v1.fArgs), (vi v1.aK), (vi v1.aL), aE, aG], .ds ([] : List Nat)]) (aI : ae al.rep 4 g aE v1.ab) (aS : ae ax.rep 3 g aG v1.ay)  (H : F7 c R r) : Cq w0 E R (av au 0) (vi x1) (.bool iz) h := by
 unfold Cq
 unfold BF at M
 refine bE (fun hc => ?_) (fun hc => ?_)
 · have M := aY hc M
   have S := S.f1
   refine S.iS (fun h S => ?_)
   cases M
   exact H _ _ cP S.bA ae.nil
 · have M := aZ hc M
   exact ag8 M S aI aS H
theorem afh {w0 : World} {g h : AH} {Q : CR → AH → Prop} {r : (List Int)} {N : Nat} {x0 : ah} {x1 : Int} {ct cu : Value} (M : Au N x0 x1 = some r) (sg : Sub g h) (ok : h.Ok) (bU : ae al.rep 4 g ct x0.ab) (cy : ae ax.rep 3 g cu x0.ay) (H : F7 ⟨g, h, []⟩ (fun v => Q (.ret v)) r) : WF PP w0 G7 [(.agg ⟨[(.string x0.aQ), (.string x0.aR), (vi x0.fArgs), (vi x0.aK), (vi x0.aL), ct, cu]⟩), (vi x1)] h Q := by
 refine X8 _ _ ?_
 have S := Sep.start sg ok
 unfold Ph
 unfold Au at M
 have S : Sep _ g h [.ds ([] : List Nat)] := S.MV
 refine S.box [(.string x0.aQ), (.string x0.aR), (vi x0.fArgs), (vi x0.aK), (vi x0.aL), ct, cu] rfl (aa rfl (aa rfl (aa rfl (aa rfl (aa rfl (aa bU.one (aa cy.one rfl))))))) (fun jT h S => ?_)
 refine S.cK [(.string x0.aQ), (.string x0.aR), (vi x0.fArgs), (vi x0.aK), (vi x0.aL), ct, cu] 0 rfl rfl rfl (by decide) ?_
 obtain ⟨aJ, im, M⟩ := bind_some M
 refine FO im S.sub S.ok bU cy (fun _ h  S1  => ?_)
 have S := S.dz S1
 refine eQ.2 ?_
 cases hc : (!aJ)
 · have M := aZ hc M
   refine aD rfl ?_
   refine aD rfl ?_
   refine bY.2 ?_
   refine aD rfl ?_
   refine S.bP 0 rfl rfl ?_
   refine aD rfl ?_
   refine bU.len ?_
   refine aD rfl ?_
   refine mY.2 ?_
   refine aD rfl ?_
   obtain ⟨kY, AQ, M⟩ := bind_some M
   refine ve AQ S.sub S.ok (fun _ h  S1  => ?_)
   have S := S.dz S1
   refine aD rfl ?_
   refine eQ.2 ?_
   refine bW.2 ?_
   exact Ws M S bU cy H
 · have M := aY hc M
   refine aC (by decide) ?_
   refine aC (by decide) ?_
   refine aC (by decide) ?_
   refine aC (by decide) ?_
   refine aC (by decide) ?_
   refine aC (by decide) ?_
   refine aC (by decide) ?_
   refine bW.2 ?_
   exact Ws M S bU cy H
def F8 {ρ : Type} (N : Nat) (v8 : List Bool) (cx : Int) (v11 : List Int) (N0 : Int → Int → Int → Option Bool) (BG : Int) (BH : List Bool) (jl : ah) (jX : Fl → (List Bool) → (List Bool) → (List Int) → Option (ρ)) : Option (ρ) :=
(ix v8 cx).bind fun Wt =>
 bif (!Wt) then (
(ix v8 cx).bind fun ahc =>
 gu (decide (v11.length + [cx].length ≤ 1048576)) (
 jX .go BH (v8.set cx.toNat true) (v11 ++ [cx]))) else (
 jX .go BH v8 v11)
def BI {ρ : Type} (N : Nat) (v2 : Int → Int → Int → Option Bool) (cd : Int) (v3 : List Bool) (v8 : List Bool) (v11 : List Int) (k9 : ah) (cx : Int) (lW : Int) (jX : Fl → (List Bool) → (List Bool) → (List Int) → Option ρ) : Option ρ :=
(v2 cd cx lW).bind fun FV =>
 bif (!FV) then (
 jX .ret ([] : List Bool) v8 v11) else (
 F8 N v8 cx v11 v2 cd v3 k9 jX)
def xJ (N : Nat) (v11 : List Int) (v1 : ah) (v2 : Int → Int → Int → Option Bool) (v3 : List Bool) (v8 : List Bool) (qZ : (List Int) → (List Bool) → (List Bool) → Option ((List Bool))) : Option ((List Bool)) :=
(ix v11 (bD .i64 ((v11.length : Int) - 1))).bind fun pF =>
(AW v11 0 (bD .i64 ((v11.length : Int) - 1))).bind fun qS =>
(ti N v1 pF).bind fun Wu =>
(oh (fun (s : (List Bool) × (List Bool) × (List Int)) (x : Int × Int) => BI N v2 pF s.1 s.2.1 s.2.2 v1 x.1 x.2 (fun f m0 m1 m2 => some ((m0, m1, m2), f))) Wu (v3, v8, qS)).bind fun vq =>
 FH vq.2 (
 qZ vq.1.2.2 vq.1.1 vq.1.2.1) (
 some vq.1.1) (fun _ => none)
def F9 (N : Nat) (v8 : List Bool) (v3 : List Bool)  : Option ((List Bool)) :=
 some v8
def BJ (N : Nat) (v11 : List Int) (v1 : ah) (v2 : Int → Int → Int → Option Bool) (v3 : List Bool) (v8 : List Bool) (qZ : (List Int) → (List Bool) → (List Bool) → Option ((List Bool))) : Option ((List Bool)) :=
 bif (decide (0 < (v11.length : Int))) then (
 xJ N v11 v1 v2 v3 v8 qZ) else (
 F9 N v8 v3)
def xK (N : Nat) (v1 : ah) (v2 : Int → Int → Int → Option Bool)  : Nat → (List Int) → (List Bool) → (List Bool) → Option ((List Bool))
 | 0, _, _, _ => none
 | n + 1, v11, v3, v8 => BJ N v11 v1 v2 v3 v8  (fun gL la lb => xK N v1 v2 n gL la lb)
def BK (N : Nat) (x0 : ah) (x1 : Int → Int → Int → Option Bool) : Option ((List Bool)) :=
 gu (decide (0 ≤ (x0.ab.length : Int)) && decide ((x0.ab.length : Int) ≤ 65536)) (
(ix (List.replicate (x0.ab.length : Int).toNat false) 0).bind fun qW =>
 xK N x0 x1 N [0] ([] : List Bool) ((List.replicate (x0.ab.length : Int).toNat false).set (0 : Int).toNat true))
abbrev BL (c : Cx) (R : Value → W) (r : (List Bool)) : Prop := ∀ (g' h' : AH) (w1 : Value), Sep c g' h' [] → ae rB 1 g' w1 r → R w1 h'
theorem ahd {ρ : Type} {w0 : World} {c : Cx} {g h : AH} {E R : Value → W} {r : ρ} {N : Nat} {v8 : List Bool} {cx : Int} {v11 : List Int} {N0 : Int → Int → Int → Option Bool} {BG : Int} {BH : List Bool} {jl : ah} {gB : Nat} {fa : Value} {fQ : List (List Value)} {iw : Nat} {gV : Value} {gW : List (List Value)} {Ga : Nat} {Gb : LO} {N2 : List Nat} {N3 : Nat} {Gc : Value} {N4 N5 : Nat} {N6 : Value} {N7 : Nat} {Gd Ge : Value} {jX : Fl → (List Bool) → (List Bool) → (List Int) → Option (ρ)} {tj : AH} (M : F8 N v8 cx v11 N0 BG BH jl jX = some r) (S : Sep c g h [.bx gB [fa], .sl 4 1 fa fQ, .bx iw [gV], .sl 3 1 gV gW, .lp Ga Gb .busy none, .ds N2, .bx N3 [Gc], .bx N4 [(vi BG)], .bx N5 [N6], .bx N7 [(.string jl.aQ), (.string jl.aR), (vi jl.fArgs), (vi jl.aK), (vi jl.aL), Gd, Ge]]) (jm : aw (rB g) fQ v8) (jB : aw ((rI .i64) g) gW v11) (akg : kz w0 g Gc N0) (Wv : ae rB 1 g N6 BH) (akh : ae al.rep 4 g Gd jl.ab) (aki : ae ax.rep 3 g Ge jl.ay) (tk : Sub tj g) (tl : ∀ {f : Fl} {la : List Bool} {oy : Value} {lb : List Bool} {oz : Value} {oA : List (List Value)} {BM : List Int} {BN : Value} {BO : List (List Value)} {g2 h2 : AH}, jX f la lb BM = some r → Sub tj g2 → Sep c g2 h2 [.lp Ga Gb f.st f.pd, .ds N2, .bx N3 [Gc], .bx N4 [(vi BG)], .bx N5 [oy], .bx gB [oz], .sl 4 1 oz oA, .bx iw [BN], .sl 3 1 BN BO, .bx N7 [(.string jl.aQ), (.string jl.aR), (vi jl.fArgs), (vi jl.aK), (vi jl.aL), Gd, Ge]] → ae rB 1 g2 oy la → aw (rB g2) oA lb → aw ((rI .i64) g2) BO BM → R (.bool f.on) h2) (H : True) : CG w0 E R (av gB 0) (vi cx) (av iw 0) Gb Ga h := by
 unfold CG
 unfold F8 at M
 refine S.bP 0 rfl rfl ?_
 obtain ⟨Wt, ahe, M⟩ := bind_some M
 refine S.xj 1 rfl jm ahe (fun akj akk vs ahf ahg rp => ?_)
 cases rp
 refine S.MP (j := 0) 1 rfl ahf ahg rfl ?_
 refine eQ.2 ?_
 refine bE (fun hc => ?_) (fun hc => ?_)
 · have M := aY hc M
   refine S.bP 0 rfl rfl ?_
   obtain ⟨ahc, ahh, M⟩ := bind_some M
   refine S.xj 1 rfl jm ahh (fun akl akm vs ahi ahj rp => ?_)
   cases rp
   have S := S.f1
   refine S.MQ (j := 0) [(.bool true)] ahi ahj rfl rfl (aa rfl rfl) (by decide) (fun h S => ?_)
   have ahk : aw (rB g) (fQ.set cx.toNat [(.bool true)]) (v8.set cx.toNat true) := aw.set jm (show rB g [(.bool true)] true from rfl) cx.toNat
   have S : Sep _ g h [.sl 4 1 fa (fQ.set cx.toNat [(.bool true)]), .bx gB [fa], .bx iw [gV], .sl 3 1 gV gW, .lp Ga Gb .busy none, .ds N2, .bx N3 [Gc], .bx N4 [(vi BG)], .bx N5 [N6], .bx N7 [(.string jl.aQ), (.string jl.aR), (vi jl.fArgs), (vi jl.aK), (vi jl.aL), Gd, Ge]] := S
   refine S.bP 2 rfl rfl ?_
   refine S.uX [[(vi cx)]] (cq (m := [(vi cx)]) (l2 := [(vi cx)]) rfl rfl (Nat.le_of_ble_eq_true rfl) rfl rfl) rfl (by decide) (u9 rfl uZ) (aa rfl rfl) (fun akn h S => ?_)
   have N8 : aw ((rI .i64) g) [[(vi cx)]] [cx] := (aw.push aw.nil (show (rI .i64) g [(vi cx)] cx from rfl))
   have S := S.f4
   obtain ⟨ahl, M⟩ := ml M
   refine S.app (S.rd 1 rfl) (by rw [jB.1, N8.1]; exact ahl) (by decide) rfl (nh (pB .i64) N8) (nh (pB .i64) jB) (fun Ww h S => ?_)
   have ahm : aw ((rI .i64) g) (gW ++ [[(vi cx)]]) (v11 ++ [cx]) := aw.append jB N8
   have S := S.f4
   refine S.c9 [Ww] [Ww] (nX (S.ni 1 rfl)) rfl (aa (S.ni 1 rfl) rfl) (Nat.le_of_ble_eq_true rfl) rfl (fun h S => ?_)
   have S := S.f5
   refine S.iT (fun h S => ?_)
   have S := S.f10
   have S := S.f3
   have S := S.f3
   have S := S.f5
   have S := S.f6
   have S := S.f10
   have S := S.f10
   have S := S.f10
   have S := S.f10
   have S := S.f9
   have S := S.t10
   exact tl M tk S Wv ahk ahm
 · have M := aZ hc M
   have S := S.f4
   refine S.iT (fun h S => ?_)
   have S := S.f9
   have S := S.f5
   have S := S.f5
   have S := S.f5
   have S := S.f5
   have S := S.f9
   have S := S.f9
   have S := S.f9
   have S := S.f9
   have S := S.f9
   exact tl M tk S Wv jm jB
theorem ahn {ρ : Type} {w0 : World} {c : Cx} {g h : AH} {E R : Value → W} {r : ρ} {N : Nat} {v2 : Int → Int → Int → Option Bool} {cd : Int} {v3 v8 : List Bool} {v11 : List Int} {k9 : ah} {cx lW : Int} {kA : Nat} {kB : Value} {N9 fP : Nat} {eF : Value} {gB : Nat} {fa : Value} {fQ : List (List Value)} {iw : Nat} {gV : Value} {gW : List (List Value)} {Wx : Nat} {Oa Oc : Value} {n_ : Nat} {o_ : LO} {d_ : List Nat} {jX : Fl → (List Bool) → (List Bool) → (List Int) → Option ρ} {tj : AH} (M : BI N v2 cd v3 v8 v11 k9 cx lW jX = some r) (S : Sep c g h [.lp n_ o_ .ready none, .ds d_, .bx kA [kB], .bx N9 [(vi cd)], .bx fP [eF], .bx gB [fa], .sl 4 1 fa fQ, .bx iw [gV], .sl 3 1 gV gW, .bx Wx [(.string k9.aQ), (.string k9.aR), (vi k9.fArgs), (vi k9.aK), (vi k9.aL), Oa, Oc]]) (lP : kz w0 g kB v2) (np : ae rB 1 g eF v3) (jm : aw (rB g) fQ v8) (jB : aw ((rI .i64) g) gW v11) (aho : ae al.rep 4 g Oa k9.ab) (ahp : ae ax.rep 3 g Oc k9.ay) (tk : Sub tj g) (tl : ∀ {f : Fl} {la : List Bool} {oy : Value} {lb : List Bool} {oz : Value} {oA : List (List Value)} {BM : List Int} {BN : Value} {BO : List (List Value)} {g2 h2 : AH}, jX f la lb BM = some r → Sub tj g2 → Sep c g2 h2 [.lp n_ o_ f.st f.pd, .ds d_, .bx kA [kB], .bx N9 [(vi cd)], .bx fP [oy], .bx gB [oz], .sl 4 1 oz oA, .bx iw [BN], .sl 3 1 BN BO, .bx Wx [(.string k9.aQ), (.string k9.aR), (vi k9.fArgs), (vi k9.aK), (vi k9.aL), Oa, Oc]] → ae rB 1 g2 oy la → aw (rB g2) oA lb → aw ((rI .i64) g2) BO BM → R (.bool f.on) h2) : CH w0 E R (av kA 0) (av N9 0) (av fP 0) (av gB 0) (av iw 0) o_ n_ (vi cx) (vi lW) h := by
 unfold CH
 unfold BI at M
 refine S.pM ?_
 refine S.lS (fun h S => ?_)
 refine S.bP 2 rfl rfl ?_
 refine S.bP 3 rfl rfl ?_
 obtain ⟨FV, ahq, M⟩ := bind_some M
 refine lP.2 cd cx lW _ _ _ _ _ (Sub.refl _) S.sub S.ok  ahq (fun _ h  S1  => ?_)
 have S := S.dz S1
 refine eQ.2 ?_
 refine bE (fun hc => ?_) (fun hc => ?_)
 · have M := aY hc M
   have S := S.f4
   refine S.c9 [cP] [cP] (nX rfl) rfl (aa rfl rfl) (Nat.le_of_ble_eq_true rfl) rfl (fun h S => ?_)
   have S := S.f1
   refine S.iT (fun h S => ?_)
   have S := S.f9
   have S := S.f9
   have S := S.f9
   have S := S.f9
   have S := S.f9
   have S := S.f6
   have S := S.f9
   have S := S.f9
   have S := S.f9
   have S := S.f9
   exact tl M tk S ae.nil jm jB
 · have M := aZ hc M
   have S := S.f9
   have S := S.f5
   have S := S.f5
   have S := S.f5
   have S := S.f5
   have S := S.f5
   have S := S.f9
   have S := S.f9
   have S := S.f9
   have S := S.f9
   exact ahd M S jm jB lP np aho ahp tk tl trivial
theorem ahr {w0 : World} {c : Cx} {g h : AH} {E R : Value → W} {r : (List Bool)} {N : Nat} {v11 : List Int} {v1 : ah} {v2 : Int → Int → Int → Option Bool} {v3 v8 : List Bool} {iw : Nat} {gV : Value} {gW : List (List Value)} {au : Nat} {aE aG : Value} {kA : Nat} {kB : Value} {fP : Nat} {eF : Value} {gB : Nat} {fa : Value} {fQ : List (List Value)} {d22 : List Nat} {pR : List Nat → W} {qZ : (List Int) → (List Bool) → (List Bool) → Option ((List Bool))} {BP : AH} (M : xJ N v11 v1 v2 v3 v8 qZ = some r) (S : Sep c g h [.bx iw [gV], .sl 3 1 gV gW, .bx au [(.string v1.aQ), (.string v1.aR), (vi v1.fArgs), (vi v1.aK), (vi v1.aL), aE, aG], .bx kA [kB], .bx fP [eF], .bx gB [fa], .sl 4 1 fa fQ, .ds d22]) (jB : aw ((rI .i64) g) gW v11) (aI : ae al.rep 4 g aE v1.ab) (aS : ae ax.rep 3 g aG v1.ay) (lP : kz w0 g kB v2) (np : ae rB 1 g eF v3) (jm : aw (rB g) fQ v8) (vr : Sub BP g) (Od : ∀ {aq : List Nat} {gL : List Int} {BQ : Value} {BR : List (List Value)} {la : List Bool} {oy : Value} {lb : List Bool} {oz : Value} {oA : List (List Value)} {g2 h2 : AH}, qZ gL la lb = some r → Sub BP g2 → Sep c g2 h2 [.bx iw [BQ], .sl 3 1 BQ BR, .bx au [(.string v1.aQ), (.string v1.aR), (vi v1.fArgs), (vi v1.aK), (vi v1.aL), aE, aG], .bx kA [kB], .bx fP [oy], .bx gB [oz], .sl 4 1 oz oA, .ds aq] → aw ((rI .i64) g2) BR gL → ae rB 1 g2 oy la → aw (rB g2) oA lb → pR aq h2) (H : BL c R r) : CI w0 E R (av iw 0) (av au 0) (av kA 0) (av fP 0) (av gB 0) pR d22 h := by
 unfold CI
 unfold xJ at M
 refine S.bP 0 rfl rfl ?_
 refine S.bP 0 rfl rfl ?_
 refine S.MO 1 rfl jB ?_
 refine mY.2 ?_
 obtain ⟨pF, ahs, M⟩ := bind_some M
 refine S.xj 1 rfl jB ahs (fun ako akp vs aht ahu rp => ?_)
 cases rp
 refine S.MP (j := 0) 1 rfl aht ahu rfl ?_
 refine S.alloc (l := [(vi 0)]) (aa rfl rfl) (fun Wy h S => ?_)
 refine S.c9 [(vi pF)] [(vi pF)] rfl rfl (aa rfl rfl) (Nat.le_of_ble_eq_true rfl) rfl (fun h S => ?_)
 refine S.bP 1 rfl rfl ?_
 refine S.bP 1 rfl rfl ?_
 refine S.MO 2 rfl jB ?_
 refine mY.2 ?_
 have S := S.f2
 obtain ⟨qS, Nk, M⟩ := bind_some M
 refine S.afQ jB Nk (fun Oe ahv S Of => ?_)
 have S := S.f2
 refine S.c9 [Oe] [Oe] (nX (S.ni 1 rfl)) rfl (aa (S.ni 1 rfl) rfl) (Nat.le_of_ble_eq_true rfl) rfl (fun h S => ?_)
 refine S.cK [(.string v1.aQ), (.string v1.aR), (vi v1.fArgs), (vi v1.aK), (vi v1.aL), aE, aG] 3 rfl rfl rfl (by decide) ?_
 refine S.bP 2 rfl rfl ?_
 obtain ⟨Wu, ahw, M⟩ := bind_some M
 refine NY N v1 pF aE aG S.sub S.ok aI aS ahw (fun g h akq S1 Og => ?_)
 have aI := ae.mono aI al.mono S1.bT
 have aS := ae.mono aS ax.mono S1.bT
 have Of := aw.mono Of (fun _ _ hh => (gK .i64) _ _ _ _ S1.bT hh)
 have lP := kz.mono lP S1.bT
 have np := ae.mono np AR S1.bT
 have jm := aw.mono jm (fun _ _ hh => AR _ _ _ _ S1.bT hh)
 have vr := Sub.trans vr S1.bT
 have S := S.na S1
 have S := S.f3
 have S := S.f2
 have S := S.f2
 have S := S.f7
 have S := S.f7
 have S := S.f7
 have S := S.f6
 have S := S.f7
 have S := S.f8
 obtain ⟨vq, ahx, M⟩ := bind_some M
 refine MW (fun (s : (List Bool) × (List Bool) × (List Int)) (x : Int × Int) => BI N v2 pF s.1 s.2.1 s.2.2 v1 x.1 x.2 (fun f m0 m1 m2 => some ((m0, m1, m2), f))) (fun (s : (List Bool) × (List Bool) × (List Int)) (g h : AH) (Γ : List Ob) => ∃ (eF : Value) (fa : Value) (fQ : List (List Value)) (gV : Value) (gW : List (List Value)), Γ = [.bx kA [kB], .bx Wy [(vi pF)], .bx fP [eF], .bx gB [fa], .sl 4 1 fa fQ, .bx iw [gV], .sl 3 1 gV gW, .bx au [(.string v1.aQ), (.string v1.aR), (vi v1.fArgs), (vi v1.aK), (vi v1.aL), aE, aG]] ∧ ae rB 1 g eF s.1 ∧ aw (rB g) fQ s.2.1 ∧ aw ((rI .i64) g) gW s.2.2 ∧ kz w0 g kB v2 ∧ ae al.rep 4 g aE v1.ab ∧ ae ax.rep 3 g aG v1.ay) Og (fun s g h Γ g' h' hd sb => by obtain ⟨u0, u1, u2, u3, u4, e, z0, z1, z2, z3, z4, z5⟩ := hd; exact ⟨u0, u1, u2, u3, u4, e, ae.mono z0 AR sb, aw.mono z1 (fun _ _ hh => AR _ _ _ _ sb hh), aw.mono z2 (fun _ _ hh => (gK .i64) _ _ _ _ sb hh), kz.mono z3 sb, ae.mono z4 al.mono sb, ae.mono z5 ax.mono sb⟩) S ⟨eF, fa, fQ, Oe, ahv, rfl, np, jm, Of, lP, aI, aS⟩ ahx (fun lo n q s x s2 f R g2 h2 Γ2 sub S D1 bm kk => ?_) (fun lX g h Γ2 sg S D1 => ?_)
 · obtain ⟨eF, fa, fQ, gV, gW, rfl, ahy, ahz, ahA, Wz, WA, WB⟩ := D1
   show CH w0 lT R (av kA 0) (av Wy 0) (av fP 0) (av gB 0) (av iw 0) lo n (vi x.1) (vi x.2) h2
   exact ahn bm S Wz ahy ahz ahA WA WB (Sub.refl g2) (fun e sb S3 ahB ahC ahD => by cases e; exact kk _ _ _ sb S3 ⟨_, _, _, _, _, rfl, ahB, ahC, ahD, (kz.mono Wz sb), (ae.mono WA al.mono sb), (ae.mono WB ax.mono sb)⟩)
 · obtain ⟨ahE, akr, aks, akt, aku, rfl, WD, ahF, ahG, _, _, _⟩ := D1
   have aI := ae.mono aI al.mono sg
   have aS := ae.mono aS ax.mono sg
   have Og := sX.mono Og sg
   have lP := kz.mono lP sg
   have vr := Sub.trans vr sg
   cases hf : vq.2 with
   | go =>
    rw [hf] at M
    have M := VJ M
    refine MU ?_
    have S := S.f5
    have S := S.f5
    have S := S.f5
    have S := S.f4
    have S := S.f8
    have S := S.f8
    have S := S.f8
    have S := S.t8
    exact Od M vr S ahG WD ahF
   | ret =>
    rw [hf] at M
    have M := VK M
    refine VL ?_
    refine S.iS (fun h S => ?_)
    refine S.bP 2 rfl rfl ?_
    cases M
    exact H _ _ ahE S.bA WD
   | ex j =>
    rw [hf] at M
    cases M
theorem ahH {w0 : World} {c : Cx} {g h : AH} {E R : Value → W} {r : (List Bool)} {N : Nat} {v8 v3 : List Bool} {gB : Nat} {fa : Value} {fQ : List (List Value)} {fP : Nat} {eF : Value} {d16 : List Nat}  (M : F9 N v8 v3 = some r) (S : Sep c g h [.bx gB [fa], .sl 4 1 fa fQ, .bx fP [eF], .ds d16]) (jm : aw (rB g) fQ v8) (np : ae rB 1 g eF v3)  (H : BL c R r) : CF w0 E R (av gB 0) (av fP 0) d16 h := by
 unfold CF
 unfold F9 at M
 refine S.bP 0 rfl rfl ?_
 have S := S.f2
 refine S.c9 [fa] [fa] (nX (S.ni 2 rfl)) rfl (aa (S.ni 2 rfl) rfl) (Nat.le_of_ble_eq_true rfl) rfl (fun h S => ?_)
 have S := S.f3
 refine S.iS (fun h S => ?_)
 refine S.bP 0 rfl rfl ?_
 have S := S.f2
 obtain ⟨g, sg, S, ahI⟩ := S.fz jm AR
 cases M
 exact H _ _ fa S.bA ahI
theorem ahJ {w0 : World} {c : Cx} {g h : AH} {E R : Value → W} {r : (List Bool)} {N : Nat} {v11 : List Int} {v1 : ah} {v2 : Int → Int → Int → Option Bool} {v3 v8 : List Bool} {iw : Nat} {gV : Value} {gW : List (List Value)} {au : Nat} {aE aG : Value} {kA : Nat} {kB : Value} {fP : Nat} {eF : Value} {gB : Nat} {fa : Value} {fQ : List (List Value)} {d21 : List Nat} {pR : List Nat → W} {qZ : (List Int) → (List Bool) → (List Bool) → Option ((List Bool))} {BP : AH} (M : BJ N v11 v1 v2 v3 v8 qZ = some r) (S : Sep c g h [.bx iw [gV], .sl 3 1 gV gW, .bx au [(.string v1.aQ), (.string v1.aR), (vi v1.fArgs), (vi v1.aK), (vi v1.aL), aE, aG], .bx kA [kB], .bx fP [eF], .bx gB [fa], .sl 4 1 fa fQ, .ds d21]) (jB : aw ((rI .i64) g) gW v11) (aI : ae al.rep 4 g aE v1.ab) (aS : ae ax.rep 3 g aG v1.ay) (lP : kz w0 g kB v2) (np : ae rB 1 g eF v3) (jm : aw (rB g) fQ v8) (vr : Sub BP g) (Od : ∀ {aq : List Nat} {gL : List Int} {BQ : Value} {BR : List (List Value)} {la : List Bool} {oy : Value} {lb : List Bool} {oz : Value} {oA : List (List Value)} {g2 h2 : AH}, qZ gL la lb = some r → Sub BP g2 → Sep c g2 h2 [.bx iw [BQ], .sl 3 1 BQ BR, .bx au [(.string v1.aQ), (.string v1.aR), (vi v1.fArgs), (vi v1.aK), (vi v1.aL), aE, aG], .bx kA [kB], .bx fP [oy], .bx gB [oz], .sl 4 1 oz oA, .ds aq] → aw ((rI .i64) g2) BR gL → ae rB 1 g2 oy la → aw (rB g2) oA lb → pR aq h2) (H : BL c R r) : yn w0 E R (av iw 0) (av au 0) (av kA 0) (av fP 0) (av gB 0) pR d21 h := by
 unfold yn
 unfold BJ at M
 refine S.bP 0 rfl rfl ?_
 refine S.MO 1 rfl jB ?_
 refine qC.2 ?_
 refine bE (fun hc => ?_) (fun hc => ?_)
 · have M := aY hc M
   exact ahr M S jB aI aS lP np jm vr Od H
 · have M := aZ hc M
   have S := S.f7
   have S := S.f5
   have S := S.f7
   have S := S.f7
   have S := S.t4
   exact ahH M S jm np H
theorem ahK {w0 : World} {c : Cx} {E R : Value → W} {r : (List Bool)} {N : Nat} {v1 : ah} {v2 : Int → Int → Int → Option Bool} {iw au : Nat} {aE aG : Value} {kA : Nat} {kB : Value} {fP gB : Nat}   (H : BL c R r) : ∀ (n : Nat) {v11 : List Int} {v3 v8 : List Bool} {gV : Value} {gW : List (List Value)} {eF fa : Value} {fQ : List (List Value)} {d21 : List Nat} {g h : AH}, xK N v1 v2 n v11 v3 v8 = some r → Sep c g h [.bx iw [gV], .sl 3 1 gV gW, .bx au [(.string v1.aQ), (.string v1.aR), (vi v1.fArgs), (vi v1.aK), (vi v1.aL), aE, aG], .bx kA [kB], .bx fP [eF], .bx gB [fa], .sl 4 1 fa fQ, .ds d21] → aw ((rI .i64) g) gW v11 → ae al.rep 4 g aE v1.ab → ae ax.rep 3 g aG v1.ay → kz w0 g kB v2 → ae rB 1 g eF v3 → aw (rB g) fQ v8 → gr (α := (Unit) × List Nat) (fun k a => yn w0 E R (av iw 0) (av au 0) (av kA 0) (av fP 0) (av gB 0) (fun  q => k ((), q)) a.2) n ((), d21) h := by
 intro n
 induction n with
 | zero =>
  intro v11 v3 v8 gV gW eF fa fQ d21 g h M S jB aI aS lP np jm
  unfold xK at M; cases M
 | succ n ih =>
  intro v11 v3 v8 gV gW eF fa fQ d21 g h M S jB aI aS lP np jm
  exact ahJ M S jB aI aS lP np jm  (Sub.refl g) (fun M2 sub S2 Mz ahL ahM => ih M2 S2 Mz (ae.mono aI al.mono sub) (ae.mono aS ax.mono sub) (kz.mono lP sub) ahL ahM ) H
theorem ahN {w0 : World} {g h : AH} {Q : CR → AH → Prop} {r : (List Bool)} {N : Nat} {x0 : ah} {x1 : Int → Int → Int → Option Bool} {ct cu cV : Value} (M : BK N x0 x1 = some r) (sg : Sub g h) (ok : h.Ok) (bU : ae al.rep 4 g ct x0.ab) (cy : ae ax.rep 3 g cu x0.ay) (dG : kz w0 g cV x1) (H : BL ⟨g, h, []⟩ (fun v => Q (.ret v)) r) : WF PP w0 HM [(.agg ⟨[(.string x0.aQ), (.string x0.aR), (vi x0.fArgs), (vi x0.aK), (vi x0.aL), ct, cu]⟩), cV] h Q := by
 refine Y1 _ _ ?_
 have S := Sep.start sg ok
 unfold PK
 unfold BK at M
 have S : Sep _ g h [.ds ([] : List Nat)] := S.MV
 refine S.box [(.string x0.aQ), (.string x0.aR), (vi x0.fArgs), (vi x0.aK), (vi x0.aL), ct, cu] rfl (aa rfl (aa rfl (aa rfl (aa rfl (aa rfl (aa bU.one (aa cy.one rfl))))))) (fun jT h S => ?_)
 refine S.box [cV] (nX dG.1) (aa dG.1 rfl) (fun AY h S => ?_)
 refine S.alloc (l := [cP]) (aa rfl rfl) (fun xa h S => ?_)
 refine bY.2 ?_
 refine S.bP 2 rfl rfl ?_
 refine bU.len ?_
 obtain ⟨Oh, M⟩ := ml M
 refine S.VD Oh rfl (aa rfl rfl) (fun BS h S => ?_)
 have Gf : aw (rB g) (List.replicate (x0.ab.length : Int).toNat [(.bool false)]) (List.replicate (x0.ab.length : Int).toNat false) := aw.Va (show rB g [(.bool false)] false from rfl) _
 refine S.alloc (l := [cP]) (aa rfl rfl) (fun b_7 h S => ?_)
 refine S.c9 [BS] [BS] (nX (S.ni 1 rfl)) rfl (aa (S.ni 1 rfl) rfl) (Nat.le_of_ble_eq_true rfl) rfl (fun h S => ?_)
 refine S.uX [[(vi 0)]] (cq (m := [(vi 0)]) (l2 := [(vi 0)]) rfl rfl (Nat.le_of_ble_eq_true rfl) rfl rfl) rfl (by decide) (u9 rfl uZ) (aa rfl rfl) (fun Gg h S => ?_)
 have A_9 : aw ((rI .i64) g) [[(vi 0)]] [0] := (aw.push aw.nil (show (rI .i64) g [(vi 0)] 0 from rfl))
 refine S.alloc (l := [cP]) (aa rfl rfl) (fun ahO h S => ?_)
 refine S.c9 [Gg] [Gg] (nX (S.ni 1 rfl)) rfl (aa (S.ni 1 rfl) rfl) (Nat.le_of_ble_eq_true rfl) rfl (fun h S => ?_)
 refine S.bP 2 rfl rfl ?_
 obtain ⟨qW, NB, M⟩ := bind_some M
 refine S.xj 3 rfl Gf NB (fun akv akw vs VU ahP rp => ?_)
 cases rp
 have S := S.f3
 refine S.MQ (j := 0) [(.bool true)] VU ahP rfl rfl (aa rfl rfl) (by decide) (fun h S => ?_)
 have ahQ : aw (rB g) ((List.replicate (x0.ab.length : Int).toNat [(.bool false)]).set (0 : Int).toNat [(.bool true)]) ((List.replicate (x0.ab.length : Int).toNat false).set (0 : Int).toNat true) := aw.set Gf (show rB g [(.bool true)] true from rfl) (0 : Int).toNat
 have S : Sep _ g h [.sl 4 1 BS ((List.replicate (x0.ab.length : Int).toNat [(.bool false)]).set (0 : Int).toNat [(.bool true)]), .bx ahO [Gg], .sl 3 1 Gg [[(vi 0)]], .bx b_7 [BS], .bx xa [cP], .bx AY [cV], .bx jT [(.string x0.aQ), (.string x0.aR), (vi x0.fArgs), (vi x0.aK), (vi x0.aL), ct, cu], .ds ([] : List Nat)] := S
 have S := S.f7
 have S := S.f1
 have S := S.f4
 have S := S.f5
 have S := S.f6
 have S := S.f7
 have S := S.f7
 have S := S.f7
 exact ⟨N, ahK  H _ M S A_9 bU cy dG ae.nil ahQ ⟩
def tn (x0 : Int) (x1 : Int) (x2 : Int) : Option Bool :=
 some true
abbrev ahR (c : Cx) (R : Value → W) (r : Bool) : Prop := ∀ (g' h' : AH), Sep c g' h' [] → R (.bool r) h'
theorem ahS {w0 : World} {g h : AH} {Q : CR → AH → Prop} {r : Bool} {x0 x1 x2 : Int} (M : tn x0 x1 x2 = some r) (sg : Sub g h) (ok : h.Ok)  (H : ahR ⟨g, h, []⟩ (fun v => Q (.ret v)) r) : WF PP w0 CJ [(vi x0), (vi x1), (vi x2)] h Q := by
 refine Y5 _ _ _ ?_
 have S := Sep.start sg ok
 unfold PL
 unfold tn at M
 cases M
 exact H _ _  S.bA
def Oi (N : Nat) (v1 : ah)  : Option ((List Bool)) :=
(BK N v1 (fun a0 a1 a2 => tn a0 a1 a2)).bind fun gz =>
 some gz
def Ap (N : Nat) (x0 : ah) : Option ((List Bool)) :=
(sY N x0).bind fun aJ =>
 bif (!aJ) then (
 some ([] : List Bool)) else (
 Oi N x0)
abbrev WE (c : Cx) (R : Value → W) (r : (List Bool)) : Prop := ∀ (g' h' : AH) (w1 : Value), Sep c g' h' [] → ae rB 1 g' w1 r → R w1 h'
theorem ahT {w0 : World} {c : Cx} {g h : AH} {E R : Value → W} {r : (List Bool)} {N : Nat} {v1 : ah} {au : Nat} {aE aG : Value}  (M : Oi N v1 = some r) (S : Sep c g h [.bx au [(.string v1.aQ), (.string v1.aR), (vi v1.fArgs), (vi v1.aK), (vi v1.aL), aE, aG]]) (aI : ae al.rep 4 g aE v1.ab) (aS : ae ax.rep 3 g aG v1.ay)  (H : WE c R r) : HN w0 E R (av au 0) h := by
 unfold HN
 unfold Oi at M
 refine S.cK [(.string v1.aQ), (.string v1.aR), (vi v1.fArgs), (vi v1.aK), (vi v1.aL), aE, aG] 0 rfl rfl rfl (by decide) ?_
 have Ny : kz w0 g (fc CJ) (fun a0 a1 a2 => tn a0 a1 a2) := ⟨rfl, fun a0 a1 a2 r E K g2 h2 s1 s2 s3  m1 k1 => ahS m1 s2 s3 k1⟩
 obtain ⟨gz, om, M⟩ := bind_some M
 refine ahN om S.sub S.ok aI aS Ny (fun g h w_7 S1 Oj => ?_)
 have aI := ae.mono aI al.mono S1.bT
 have aS := ae.mono aS ax.mono S1.bT
 have S := S.na S1
 cases M
 exact H _ _ w_7 S.bA Oj
theorem aeJ {w0 : World} {g h : AH} {Q : CR → AH → Prop} {r : (List Bool)} {N : Nat} {x0 : ah} {ct cu : Value} (M : Ap N x0 = some r) (sg : Sub g h) (ok : h.Ok) (bU : ae al.rep 4 g ct x0.ab) (cy : ae ax.rep 3 g cu x0.ay) (H : WE ⟨g, h, []⟩ (fun v => Q (.ret v)) r) : WF PP w0 HO [(.agg ⟨[(.string x0.aQ), (.string x0.aR), (vi x0.fArgs), (vi x0.aK), (vi x0.aL), ct, cu]⟩)] h Q := by
 refine Y7 _ ?_
 have S := Sep.start sg ok
 unfold PM
 unfold Ap at M
 refine S.box [(.string x0.aQ), (.string x0.aR), (vi x0.fArgs), (vi x0.aK), (vi x0.aL), ct, cu] rfl (aa rfl (aa rfl (aa rfl (aa rfl (aa rfl (aa bU.one (aa cy.one rfl))))))) (fun jT h S => ?_)
 refine S.cK [(.string x0.aQ), (.string x0.aR), (vi x0.fArgs), (vi x0.aK), (vi x0.aL), ct, cu] 0 rfl rfl rfl (by decide) ?_
 obtain ⟨aJ, im, M⟩ := bind_some M
 refine FO im S.sub S.ok bU cy (fun _ h  S1  => ?_)
 have S := S.dz S1
 refine eQ.2 ?_
 refine bE (fun hc => ?_) (fun hc => ?_)
 · have M := aY hc M
   cases M
   exact H _ _ cP S.bA ae.nil
 · have M := aZ hc M
   exact ahT M S bU cy H
end
end Go.Ve.T
