/- Part 14: VEval, part 35: functions that are known by a contract; closed calls that give constants. No condition. And what follows it. -/
import Derived.Test.YteeibihhdldjfaaGreatDoorVeM
import Derived.Lib.Join
import Derived.Lib.ItoaNum
import Derived.Lib.Atoi
set_option linter.unusedVariables false
set_option linter.unusedSimpArgs false
namespace Go.Ve
open Go.RowKit
theorem HR.behind {P : Program} {w0 w w' : World} {φ : au} {h : AH} (H : HR P w0 φ h w) (hb : Below w.heap.size w w') : HR P w0 φ h w' := by
 refine ⟨H.inj, H.fresh, H.top, H.dead, fun f b d n hf => ?_, ?_⟩
 · obtain ⟨o, o', a1, a2, a3⟩ := H.obj f b d n hf
   exact ⟨o, o', a1, by rw [hb.block b (Array.getElem?_eq_some_iff.1 a2).1]; exact a2, a3⟩
 · have h1 := H.below
   exact ⟨hb.os.trans h1.os, hb.tape.trans h1.tape, hb.output.trans h1.output, Nat.le_trans h1.size (Nat.le_trans (by simp) hb.size), fun k hk => by rw [hb.block k (Nat.lt_of_lt_of_le hk h1.size)]; exact h1.block k hk⟩
theorem Bq {P : Program} {w0 : World} {f : FuncId} {S : List Value → AH → (CR → AH → Bool) → Bool} (fE : Can P f)
 (hS : ∀ args h k φ args' w, S args h k = true → LR φ args args'.toList → HR P w0 φ h w → ∃ v c, VR φ v c ∧ k (.ret v) h = true ∧ Calls P f args' w fun E w' => E = .returned c ∧ Below w.heap.size w w') :
 ∀ (args : List Value) (h : AH) (k : CR → AH → Bool), S args h k = true → gq P w0 f args h k := by
 intro args h k e
 refine ⟨fE, fun φ args' w hl H => ?_⟩
 obtain ⟨v, c, h1, h2, h3⟩ := hS args h k φ args' w e hl H
 refine Calls.mono h3 fun E w' hE => ?_
 exact ⟨.ret v, h, φ, h2, Ext.refl _ _, Nat.le_refl _, H.behind hE.2, c, hE.1, h1⟩
def x9 : Value → Value → Bool
 | .bool a, .bool b => bif a then b else !b
 | .int k a, .int l b => eS k l && kj a b
 | .string a, .string b => mS a.data.toList b.data.toList
 | .nilIface, .nilIface => true
 | _, _ => false
def FX : List Value → List Value → Bool
 | [], [] => true
 | a :: l, b :: m => x9 a b && FX l m
 | _, _ => false
def FY : Value → Value → Bool
 | .agg ⟨l⟩, .agg ⟨m⟩ => FX l m
 | a, b => x9 a b
def Br : List Value → List Value → Bool
 | [], [] => true
 | a :: l, b :: m => FY a b && Br l m
 | _, _ => false
def vU : Value → Value → Bool
 | .agg ⟨l⟩, .agg ⟨m⟩ => Br l m
 | .tuple ⟨l⟩, .tuple ⟨m⟩ => Br l m
 | a, b => x9 a b
def Plain (a b : Value) : Prop := ∀ φ, VR φ a b ∧ ∀ v, VR φ a v → v = b
def sc (l m : List Value) : Prop := ∀ φ, LR φ l m ∧ ∀ l', LR φ l l' → l' = m
theorem sc.nil : sc [] [] := fun φ => ⟨.nil, fun l' h => by cases h; rfl⟩
theorem sc.cons {a b : Value} {l m : List Value} (h : Plain a b) (hl : sc l m) : sc (a :: l) (b :: m) := fun φ =>
 ⟨.cons _ _ _ _ (h φ).1 (hl φ).1, fun l' h' => by
  cases h' with | cons _ v _ l2 h1 h2 => rw [(h φ).2 v h1, (hl φ).2 l2 h2]⟩
theorem VC : ∀ {a b : List UInt8}, mS a b = true → a = b
 | [], [], _ => rfl
 | x :: l, y :: m, h => by
  have h' : (bif Nat.beq x.toNat y.toNat then mS l m else false) = true := h
  cases hx : Nat.beq x.toNat y.toNat with
  | false => rw [hx] at h'; cases h'
  | true =>
   rw [hx, cond_true] at h'
   rw [VC h', UInt8.toNat_inj.1 (Nat.eq_of_beq_eq_true hx)]
 | [], _ :: _, h => by cases h
 | _ :: _, [], h => by cases h
theorem ML {a b : Value} (h : x9 a b = true) : Plain a b := by
 unfold x9 at h
 split at h
 · rename_i a b
   have : a = b := by cases a <;> cases b <;> simp_all
   subst this
   exact fun φ => ⟨.bool _, fun v hv => hv.pT⟩
 · rename_i k a l b
   rw [Bool.and_eq_true] at h
   obtain rfl := mK h.1
   obtain rfl : a = b := by have := h.2; rw [rF] at this; simpa using this
   exact fun φ => ⟨.int _ _, fun v hv => hv.gg⟩
 · rename_i a b
   have h1 := VC h
   have : a = b := by
    apply ByteArray.ext
    exact Array.toList_inj.1 h1
   subst this
   exact fun φ => ⟨.str _, fun v hv => hv.jb⟩
 · exact fun φ => ⟨.xj, fun v hv => by cases hv; rfl⟩
 · cases h
theorem VD : ∀ {l m : List Value}, FX l m = true → sc l m
 | [], [], _ => .nil
 | a :: l, b :: m, h => by
  have h' : (x9 a b && FX l m) = true := h
  rw [Bool.and_eq_true] at h'
  exact .cons (ML h'.1) (VD h'.2)
 | [], _ :: _, h => by cases h
 | _ :: _, [], h => by cases h
theorem Plain.agg {l m : List Value} (h : sc l m) : Plain (.agg ⟨l⟩) (.agg ⟨m⟩) := fun φ => ⟨.agg _ _ (h φ).1, fun v hv => by
 obtain ⟨a', rfl, h'⟩ := hv.vV
 have := (h φ).2 _ h'
 cases a'; simp_all⟩
theorem Plain.fD {l m : List Value} (h : sc l m) : Plain (.tuple ⟨l⟩) (.tuple ⟨m⟩) := fun φ => ⟨.fD _ _ (h φ).1, fun v hv => by
 obtain ⟨a', rfl, h'⟩ := hv.VE
 have := (h φ).2 _ h'
 cases a'; simp_all⟩
theorem aer {a b : Value} (h : FY a b = true) : Plain a b := by
 unfold FY at h
 split at h
 · exact .agg (VD h)
 · exact ML h
theorem MM : ∀ {l m : List Value}, Br l m = true → sc l m
 | [], [], _ => .nil
 | a :: l, b :: m, h => by
  have h' : (FY a b && Br l m) = true := h
  rw [Bool.and_eq_true] at h'
  exact .cons (aer h'.1) (MM h'.2)
 | [], _ :: _, h => by cases h
 | _ :: _, [], h => by cases h
theorem Bs {a b : Value} (h : vU a b = true) : Plain a b := by
 unfold vU at h
 split at h
 · exact .agg (MM h)
 · exact .fD (MM h)
 · exact ML h
def MN (c : Value) (r : CR) (_ : AH) : Bool := CR.casesOn (motive := fun _ => Bool) r (fun v => vU v c) (fun _ => false)
theorem aes {P : Program} (bF : P.follows .mixedOrders = true) {prog : NT gn} (oS : ∀ f af, prog.get f = some af → bW P f = some af) {sums : rQ} {w : World} (Mr : Fg P w sums) {n : Nat} {f : FuncId} {args : List Value} {args' : Array Value} {c : Value}
 (h : ev prog sums n (.call f args ⟨0, .e⟩ (MN c)) = true) (hl : LR (fun _ => none) args args'.toList) : Can P f ∧ Calls P f args' w fun E w' => E = .returned c ∧ Below w.heap.size w w' := by
 have hC : gq P w f args ⟨0, .e⟩ (MN c) := UK bF oS Mr n _ h
 refine ⟨hC.1, Calls.mono (hC.2 (fun _ => none) args' w hl (HR.bare P w)) fun E w' hR => ?_⟩
 obtain ⟨r, h', φ', h1, h2, h3, h4, h5⟩ := hR
 cases r with
 | aQ v => cases h1
 | ret v =>
  obtain ⟨v', rfl, hv⟩ := h5
  exact ⟨by rw [(Bs h1 φ').2 v' hv], h4.below⟩
end Go.Ve
namespace Go.Ve
open Go.RowKit
noncomputable section
def Bt (f : Nat) (n : Nat) (acc : List UInt8) (k : List UInt8 → Bool) : Bool := match f with
 | 0 => false
 | f + 1 => bif Nat.ble 10 n then fN (Nat.div n 10) fun q => Bt f q (UInt8.ofNat (Nat.add 48 (Nat.mod n 10)) :: acc) k else k (UInt8.ofNat (Nat.add 48 n) :: acc)
def VF (vs : List Value) (h : AH) (k : CR → AH → Bool) : Bool := a1 vs fun v => jT v fun kd n => iff (eS kd .i64) (match n with
 | .ofNat a => iff (Nat.ble a 9223372036854775807) (Bt 25 a [] fun l => k (.ret (.string ⟨⟨l⟩⟩)) h)
 | .negSucc a => iff (Nat.ble a 9223372036854775807) (fN (Nat.succ a) fun a => Bt 25 a [] fun l => k (.ret (.string ⟨⟨45 :: l⟩⟩)) h))
def VG (vs : List Value) (h : AH) (k : CR → AH → Bool) : Bool := a1 vs fun v => iv v fun s => iff (Nat.ble s.data.toList.length 18) (match Go.Lib.atoi s.data.toList with
 | some n => fI n fun n => k (.ret (.tuple ⟨[.int .i64 n, .nilIface]⟩)) h
 | none => false)
def FZ (sep : List UInt8) : List Value → (List UInt8 → Bool) → Bool
 | [], k => k []
 | [v], k => iv v fun s => k s.data.toList
 | v :: l, k => iv v fun s => FZ sep l fun m => rW sep m fun m => rW s.data.toList m k
def VH (vs : List Value) (h : AH) (k : CR → AH → Bool) : Bool := a2 vs fun v s => iv s fun sep => jU v false fun b o n c => iff (Nat.ble 1 n && Nat.ble n 65536) (jQ h b o n fun l => FZ sep.data.toList l fun m => iff (Nat.ble m.length 1048576) (k (.ret (.string ⟨⟨m⟩⟩)) h))
theorem MO : ∀ (f n : Nat) {acc : List UInt8} {k : List UInt8 → Bool}, Bt f n acc k = true → k (Lib.decDigits n ++ acc) = true
 | 0, n, acc, k, h => by cases h
 | f + 1, n, acc, k, h => by
  have h1 : (bif Nat.ble 10 n then fN (Nat.div n 10) fun q => Bt f q (UInt8.ofNat (Nat.add 48 (Nat.mod n 10)) :: acc) k else k (UInt8.ofNat (Nat.add 48 n) :: acc)) = true := h
  by_cases hn : 10 ≤ n
  · rw [show Nat.ble 10 n = true from Nat.ble_eq_true_of_le hn, cond_true, bO] at h1
    have h2 : k (Lib.decDigits (n / 10) ++ (UInt8.ofNat (48 + n % 10) :: acc)) = true := MO f _ h1
    rw [Lib.decDigits, dif_neg (by omega)]
    simpa using h2
  · rw [show Nat.ble 10 n = false by rw [tc]; simpa using hn, cond_false] at h1
    rw [Lib.decDigits, dif_pos (by omega)]
    exact h1
theorem aet {P : Program} {w0 : World} {f : FuncId} (fE : Can P f)
 (hI : ∀ (n : Int) (w : World), -9223372036854775808 ≤ n → n ≤ 9223372036854775807 → Below w0.heap.size w0 w → Calls P f #[.int .i64 n] w fun e w' => e = .returned (.string ⟨(Lib.itoa n).toArray⟩) ∧ Below w.heap.size w w') :
 ∀ (args : List Value) (h : AH) (k : CR → AH → Bool), VF args h k = true → gq P w0 f args h k := by
 refine Bq fE fun args h k φ args' w e hl H => ?_
 obtain ⟨L, hL⟩ : ∃ L, args'.toList = L := ⟨_, rfl⟩
 rw [hL] at hl
 obtain ⟨v, rfl, e1⟩ := ew e
 obtain ⟨kd, n, rfl, e2⟩ := l6 e1
 obtain ⟨e3, e4⟩ := bT e2
 obtain rfl := mK e3
 have ju : args' = #[.int .i64 n] := by
  cases hl with | cons _ v' _ l' h1 h2 => cases h2; apply Array.ext'; rw [hL, h1.gg]
 subst ju
 refine ⟨.string ⟨(Lib.itoa n).toArray⟩, _, .str _, ?_, hI n w ?_ ?_ H.below⟩
 · cases n with
   | ofNat a =>
    obtain ⟨e5, e6⟩ := bT e4
    have := MO _ _ e6
    rw [List.append_nil] at this
    rw [show Lib.itoa (Int.ofNat a) = Lib.decDigits a by unfold Lib.itoa; rw [if_neg (by have := Int.natCast_nonneg a; exact Int.not_lt.2 this)]; rfl]
    exact this
   | negSucc a =>
    obtain ⟨e5, e6⟩ := bT e4
    rw [bO] at e6
    have := MO _ _ e6
    rw [List.append_nil] at this
    rw [show Lib.itoa (Int.negSucc a) = 45 :: Lib.decDigits (a + 1) by unfold Lib.itoa; rw [if_pos (by omega)]; rfl]
    exact this
 · cases n with
   | ofNat a => have := Int.natCast_nonneg a; show -9223372036854775808 ≤ (a : Int); omega
   | negSucc a => have := Nat.le_of_ble_eq_true (bT e4).1; omega
 · cases n with
   | ofNat a => have := Nat.le_of_ble_eq_true (bT e4).1; show (a : Int) ≤ 9223372036854775807; omega
   | negSucc a => omega
theorem aeu {P : Program} {w0 : World} {f : FuncId} (fE : Can P f)
 (hI : ∀ (s : ByteArray) (n : Int) (w : World), s.size ≤ 18 → Lib.atoi s.data.toList = some n → Calls P f #[.string s] w fun e w' => e = .returned (.tuple #[.int .i64 n, .nilIface]) ∧ Below w.heap.size w w') :
 ∀ (args : List Value) (h : AH) (k : CR → AH → Bool), VG args h k = true → gq P w0 f args h k := by
 refine Bq fE fun args h k φ args' w e hl H => ?_
 obtain ⟨L, hL⟩ : ∃ L, args'.toList = L := ⟨_, rfl⟩
 rw [hL] at hl
 obtain ⟨v, rfl, e1⟩ := ew e
 obtain ⟨s, rfl, e2⟩ := j9 e1
 obtain ⟨e3, e4⟩ := bT e2
 have ju : args' = #[.string s] := by
  cases hl with | cons _ v' _ l' h1 h2 => cases h2; apply Array.ext'; rw [hL, h1.jb]
 subst ju
 split at e4
 · rename_i n hn
   rw [mc] at e4
   exact ⟨_, _, .fD ⟨[.int .i64 n, .nilIface]⟩ #[.int .i64 n, .nilIface] (.cons _ _ _ _ (.int _ _) (.cons _ _ _ _ .xj .nil)), e4, hI s n w (by have := Nat.le_of_ble_eq_true e3; simpa using this) hn⟩
 · cases e4
theorem MP : ∀ (l m : List UInt8) {k : List UInt8 → Bool}, rW l m k = true → k (l ++ m) = true
 | [], m, k, h => h
 | x :: l, m, k, h => MP l m (show rW l m (fun l' => k (x :: l')) = true from h)
theorem VI (sep : List UInt8) : ∀ (l : List Value) {k : List UInt8 → Bool}, FZ sep l k = true → ∃ xs : List ByteArray, l = xs.map .string ∧ k (Lib.join (xs.map (·.data.toList)) sep) = true
 | [], k, h => ⟨[], rfl, h⟩
 | [v], k, h => by
  obtain ⟨s, rfl, e⟩ := j9 (show iv v _ = true from h)
  exact ⟨[s], rfl, by rw [List.map_cons, List.map_nil, Lib.join_one]; exact e⟩
 | v :: y :: l, k, h => by
  obtain ⟨s, rfl, e⟩ := j9 (show iv v (fun s => FZ sep (y :: l) fun m => rW sep m fun m => rW s.data.toList m k) = true from h)
  obtain ⟨xs, h1, h2⟩ := VI sep (y :: l) e
  have h3 := MP _ _ (MP _ _ h2)
  refine ⟨s :: xs, by rw [h1]; rfl, ?_⟩
  rw [List.map_cons]
  cases xs with
  | nil => cases h1
  | cons x r =>
   rw [List.map_cons, Lib.join_cons] at h3
   rw [List.map_cons, Lib.join_cons]
   simpa [Lib.joinTail] using h3
theorem aev {P : Program} {w0 : World} {f : FuncId} (fE : Can P f)
 (hJ : ∀ (bk o c : Nat) (xs : List ByteArray) (sep : ByteArray) (w : World), (∀ (j : Nat) x, xs[j]? = some x → w.cell? ⟨bk, o + j, none⟩ = some (.string x)) → bk < w.heap.size → xs.length ≤ 140737488355328 → xs.length ≤ c → (Lib.join (xs.map (·.data.toList)) sep.data.toList).length ≤ 140737488355328 →
  Calls P f #[.slice (some ⟨bk, o, none⟩) xs.length c, .string sep] w fun e w' => e = .returned (.string ⟨(Lib.join (xs.map (·.data.toList)) sep.data.toList).toArray⟩) ∧ Below w.heap.size w w') :
 ∀ (args : List Value) (h : AH) (k : CR → AH → Bool), VH args h k = true → gq P w0 f args h k := by
 refine Bq fE fun args h k φ args' w e hl H => ?_
 obtain ⟨L, hL⟩ : ∃ L, args'.toList = L := ⟨_, rfl⟩
 rw [hL] at hl
 obtain ⟨v, s, rfl, e1⟩ := gp e
 obtain ⟨sep, rfl, e2⟩ := j9 e1
 rcases oK e2 with ⟨l0, c0, _, e3⟩ | ⟨a, len, cap, rfl, e3⟩
 · cases e3
 obtain ⟨e4, e5⟩ := bT e3
 simp only [Bool.and_eq_true] at e4
 have SZ := Nat.le_of_ble_eq_true e4.1
 have xx := Nat.le_of_ble_eq_true e4.2
 obtain ⟨lo, hi, ty, l7, cc, l, g1, g2, g3, g4, g5, g6⟩ := td e5
 obtain ⟨xs, rfl, e6⟩ := VI _ _ g6
 obtain ⟨e7, e8⟩ := bT e6
 have e7 := Nat.le_of_ble_eq_true e7
 cases hl with
 | cons _ v1 _ l1 h1 h2 =>
  cases h2 with
  | cons _ v2 _ l2 h3 h4 =>
   cases h4
   obtain ⟨a', c', rfl, hs, gL⟩ := h1.nF
   obtain rfl := h3.jb
   have cB : AtR φ a a' ∧ len ≤ c' := by
    rcases gL with ⟨_, h2, h3, h4⟩ | ⟨_, _, _, h3, h4⟩
    · exact ⟨h4 (by omega), by omega⟩
    · exact ⟨(h4 (by omega)).1, h3⟩
   rw [List.length_map] at g4
   obtain ⟨b, d, arr, fr, p1, p2, p3, p4, p5, p6, p7, p8⟩ := H.at hs cB.1 g1
   have MQ : a' = ⟨b, a'.off, none⟩ := by cases a'; simp_all
   have ju : args' = #[.slice (some ⟨b, a'.off, none⟩) xs.length c', .string sep] := by apply Array.ext'; rw [hL, g4, ← MQ]
   subst ju
   refine ⟨_, _, .str _, e8, hJ b a'.off c' xs sep w (fun j x hj => ?_) (Array.getElem?_eq_some_iff.1 p5).1 (by omega) (by omega) (by omega)⟩
   have z6 := (List.getElem?_eq_some_iff.1 hj).1
   obtain ⟨v', q1, q2⟩ := H.cell hs cB.1 g1 (j := j) (by omega) (by omega) (g5 j (.string x) (by simp [hj]))
   rw [lJ a' p4, p2] at q1
   rw [q1, q2.jb]
end
end Go.Ve
namespace Go.Ve.T
open Go.Ve Go.Proofs Go.RowKit
noncomputable section
set_option maxRecDepth 20000
theorem AH.afM {h : AH} {b o n : Nat} {l : List Value} (hn : l.length = n) (H : h.can b o n) : (h.wr b o l).bE b o l := fun i v hv => by
 have hi : i < l.length := (List.getElem?_eq_some_iff.1 hv).1
 subst hn
 rw [AH.tL H (Nat.le_refl _), if_pos ⟨rfl, by omega, by omega⟩, Nat.add_sub_cancel_left]; exact hv
def FT : List (List Value) := [[(bs []), vi 0, vi 0, vi 0, vi 0, vi 0, vi 0, .bool false, .bool false],
[(bs [105, 110, 116]), vi 1, vi 4, vi 0, vi 1, vi 0, vi 0, .bool false, .bool false],
[(bs [98, 111, 111, 108]), vi 1, vi 5, vi 0, vi 1, vi 0, vi 0, .bool false, .bool false],
[(bs [118, 111, 105, 100]), vi 1, vi 0, vi 0, vi 1, vi 0, vi 0, .bool false, .bool false],
[(bs [109, 111, 118, 101]), vi 1, vi 1, vi 0, vi 1, vi 2, vi 0, .bool false, .bool false],
[(bs [115, 101, 108, 102]), vi 1, vi 0, vi 0, vi 1, vi 0, vi 0, .bool false, .bool false],
[(bs [97, 100, 100]), vi 1, vi 1, vi 1, vi 1, vi 2, vi 3, .bool true, .bool false],
[(bs [115, 117, 98]), vi 1, vi 1, vi 1, vi 1, vi 2, vi 3, .bool true, .bool false],
[(bs [109, 117, 108]), vi 1, vi 1, vi 1, vi 1, vi 2, vi 3, .bool true, .bool false],
[(bs [100, 105, 118]), vi 1, vi 1, vi 1, vi 1, vi 2, vi 3, .bool true, .bool false],
[(bs [109, 111, 100]), vi 1, vi 1, vi 1, vi 1, vi 2, vi 3, .bool true, .bool false],
[(bs [110, 101, 103]), vi 1, vi 1, vi 0, vi 1, vi 2, vi 0, .bool false, .bool false],
[(bs [101, 113]), vi 1, vi 1, vi 1, vi 1, vi 2, vi 3, .bool false, .bool false],
[(bs [108, 101, 115, 115]), vi 1, vi 1, vi 1, vi 1, vi 2, vi 3, .bool false, .bool false],
[(bs [109, 111, 115, 116]), vi 1, vi 1, vi 1, vi 1, vi 2, vi 3, .bool false, .bool false],
[(bs [110, 111, 116]), vi 1, vi 1, vi 0, vi 1, vi 2, vi 0, .bool false, .bool false],
[(bs [104, 97, 115]), vi 1, vi 1, vi 0, vi 1, vi 2, vi 0, .bool false, .bool false],
[(bs [103, 101, 116]), vi 1, vi 2, vi 7, vi 1, vi 2, vi 0, .bool true, .bool false],
[(bs [115, 101, 116]), vi 7, vi 1, vi 0, vi 0, vi 2, vi 0, .bool false, .bool false],
[(bs [97, 114, 103]), vi 6, vi 1, vi 0, vi 0, vi 2, vi 0, .bool false, .bool false],
[(bs [99, 97, 108, 108]), vi 2, vi 2, vi 8, vi 1, vi 2, vi 0, .bool true, .bool false],
[(bs [110, 101, 119]), vi 1, vi 10, vi 5, vi 1, vi 0, vi 0, .bool true, .bool false],
[(bs [109, 97, 107, 101]), vi 1, vi 9, vi 0, vi 0, vi 1, vi 0, .bool true, .bool false],
[(bs [105, 110, 118]), vi 2, vi 0, vi 0, vi 0, vi 1, vi 0, .bool true, .bool false],
[(bs [106, 117, 109, 112]), vi 3, vi 0, vi 0, vi 0, vi 0, vi 0, .bool false, .bool true],
[(bs [102, 97, 108, 115, 101]), vi 1, vi 3, vi 0, vi 0, vi 1, vi 0, .bool false, .bool false],
[(bs [114, 97, 105, 115, 101]), vi 11, vi 0, vi 0, vi 0, vi 0, vi 0, .bool true, .bool true],
[(bs [102, 97, 105, 108]), vi 0, vi 0, vi 0, vi 0, vi 0, vi 0, .bool true, .bool true],
[(bs [114, 101, 116]), vi 2, vi 0, vi 0, vi 0, vi 1, vi 0, .bool false, .bool true],
[(bs [112, 117, 116]), vi 1, vi 0, vi 0, vi 0, vi 1, vi 0, .bool false, .bool false],
[(bs [101, 110, 116, 101, 114]), vi 1, vi 0, vi 0, vi 0, vi 1, vi 0, .bool true, .bool false],
[(bs [108, 101, 97, 118, 101]), vi 0, vi 0, vi 0, vi 0, vi 0, vi 0, .bool false, .bool false],
[(bs [97, 103, 97, 105, 110]), vi 1, vi 3, vi 0, vi 0, vi 1, vi 0, .bool true, .bool false],
[(bs [108, 111, 97, 100]), vi 1, vi 12, vi 0, vi 1, vi 0, vi 0, .bool false, .bool false],
[(bs [115, 116, 111, 114, 101]), vi 12, vi 1, vi 0, vi 0, vi 2, vi 0, .bool false, .bool false]]
def isOp (op : Int) : Bool := decide (1 ≤ op ∧ op ≤ 34)
def qx (op : Int) : List Value := if isOp op then FT.getD op.toNat [] else FT.getD 0 []
theorem GZ {op : Int} (h : isOp op = true) : op = 1 ∨ op = 2 ∨ op = 3 ∨ op = 4 ∨ op = 5 ∨ op = 6 ∨ op = 7 ∨ op = 8 ∨ op = 9 ∨ op = 10 ∨ op = 11 ∨ op = 12 ∨ op = 13 ∨ op = 14 ∨ op = 15 ∨ op = 16 ∨ op = 17 ∨ op = 18 ∨ op = 19 ∨ op = 20 ∨ op = 21 ∨ op = 22 ∨ op = 23 ∨ op = 24 ∨ op = 25 ∨ op = 26 ∨ op = 27 ∨ op = 28 ∨ op = 29 ∨ op = 30 ∨ op = 31 ∨ op = 32 ∨ op = 33 ∨ op = 34 := by
 unfold isOp at h; rw [decide_eq_true_eq] at h; omega
def Ol : NT gn := NT.e.set 120 (some (aF 120))
theorem afN : ∀ f af, Ol.get f = some af → bW PP f = some af := fun f af h => by
 unfold Ol at h
 rw [NT.cZ] at h
 split at h
 · have := Option.some.inj h; subst this; subst f; exact afO
 · cases h
theorem afP : ev Ol [] 100000 (.call 120 [] ⟨0, .e⟩ (MN (.agg ⟨FT.flatten⟩))) = true := by kernel_rfl
section
variable {w0 : World} {h : AH} {Q : CR → AH → Prop}
open Classical in
theorem WM (H : ∀ h', cU h h' → (h.Ok → h'.Ok) → Q (.ret (.agg ⟨FT.flatten⟩)) h') : WF PP w0 Ra [] h Q := by
 have hC : ∀ w, Can PP 120 ∧ Calls PP 120 #[] w fun E w' => E = .returned (.agg ⟨FT.flatten⟩) ∧ Below w.heap.size w w' := fun w => aes bF afN (sums := []) (fun p hp => by cases hp) afP .nil
 have hp : vU (.agg ⟨FT.flatten⟩) (.agg ⟨FT.flatten⟩) = true := by kernel_rfl
 refine ⟨(hC w0).1, fun φ args' w hl hh => ?_⟩
 have : args' = #[] := by
  cases fR : args'.toList with
  | nil => simpa using fR
  | cons _ _ => rw [fR] at hl; cases hl
 subst this
 exact Calls.mono (hC w).2 fun E w' hE => ⟨_, h, φ, decide_eq_true (H h (.refl h) id), Ext.refl _ _, Nat.le_refl _, hh.behind hE.2, _, hE.1, (Bs hp φ).1⟩
theorem WN {sz : Nat} : ∀ {l : List (List Value)} {i : Nat} {x : List Value}, (∀ x ∈ l, x.length = sz) → l[i]? = some x → (l.flatten.drop (i * sz)).take sz = x
 | [], i, x, _, e => by simp at e
 | y :: l, 0, x, hs, e => by
  simp at e; subst e
  have := hs y List.mem_cons_self
  rw [Nat.zero_mul, List.drop_zero, List.flatten_cons, List.take_append_of_le_length (by omega), ← this, List.take_length]
 | y :: l, i + 1, x, hs, e => by
  have h1 := hs y List.mem_cons_self
  rw [List.flatten_cons, show (i + 1) * sz = y.length + i * sz by rw [h1, Nat.add_mul]; omega, List.drop_append, List.drop_of_length_le (by omega), List.nil_append, Nat.add_sub_cancel_left]
  exact WN (fun x hx => hs x (List.mem_cons_of_mem _ hx)) (by simpa using e)
theorem afQ {h h' : AH} (K : cU h h') {b o n : Nat} (hb : b < h.nx) : h'.can b o n ↔ h.can b o n := by unfold AH.can; rw [K.get b hb]
theorem WO {i : Nat} (hi : i < 35) : ∃ x, FT[i]? = some x ∧ FT.getD i [] = x ∧ x.length = 9 ∧ cP x = true := by
 have hl : FT.length = 35 := by kernel_rfl
 have h1 : FT.all (fun x => decide (x.length = 9) && cP x) = true := by kernel_rfl
 have hx : FT[i]? = some FT[i] := List.getElem?_eq_getElem (by omega)
 have h2 := List.all_eq_true.1 h1 FT[i] (List.getElem_mem (by omega))
 rw [Bool.and_eq_true, decide_eq_true_eq] at h2
 exact ⟨_, hx, by rw [List.getD, hx]; rfl, h2.1, h2.2⟩
theorem WQ (op : Int) (H : ∀ h', cU h h' → (h.Ok → h'.Ok) → Q (.ret (.tuple ⟨[.agg ⟨qx op⟩, .bool (isOp op)]⟩)) h') : WF PP w0 uQ [vi op] h Q := by
 refine Z0 _ ?_
 unfold Rb
 refine (Bz rfl).2 ?_
 refine jf.2 ?_
 by_cases hi : isOp op = true
 · have du : 1 ≤ op ∧ op ≤ 34 := by unfold isOp at hi; rwa [decide_eq_true_eq] at hi
   have e1 : decide (op < 1) = false := decide_eq_false (by omega)
   have e2 : decide (34 < op) = false := decide_eq_false (by omega)
   simp only [e1, e2, DQ, pr, ld, pn, M9, Na, Nb, Nc, Nd, Nk, Nl, Nf, Ng, Nh, Ni, Nj, ck, Gi, bB, cond_true, cond_false, cr, al, NB, lM (show 0 < 2 by decide), lM (show 0 < 3 by decide), lM (show 0 < 4 by decide), lM (show 0 < 7 by decide), lM (show 0 < 9 by decide), NC, Gy, ND, AH.Ny, AH.Nx, AH.Gc, AH.MW, AH.Gx, AH.Nz, AH.lh, if_true, if_false, Nat.zero_add, Nat.add_zero, Nat.reduceAdd, bo, bp, bt, bw, NM, NN, NO, NP, List.getElem?_cons_zero, List.getElem?_cons_succ, Option.some.injEq, exists_eq_left', Option.bind_some, Option.map_some, cg, tP, jf, tQ, oY, qo, fy, M6, M7, decide_true, decide_false, Bool.not_true, Bool.not_false, Nat.left_eq_add, Nat.add_eq_zero_iff, Nat.add_eq_left, Nat.add_eq_right, Nat.reduceEqDiff, Nat.one_ne_zero, and_false, false_and, true_and, and_true, List.length_cons, List.length_nil, Nat.reduceLeDiff, Nat.le_refl, Nat.not_lt_zero, Nat.lt_irrefl, reduceCtorEq, NQ, sj, NF, NG, NH, NI, NJ, NK, NL, Bool.and_self, Bool.and_true, Bool.true_and, cQ, Gz, NV, kq, kp, List.take_zero, List.take_succ_cons, List.drop_zero, List.drop_succ_cons, List.drop_nil, List.take_nil, and_self, ↓reduceIte, List.flatMap_cons, List.flatMap_nil, List.cons_append, List.nil_append, List.append_nil, Bz, Gj, Nat.sub_zero, Nat.reduceSub, Nat.reduceLT, AH.NA, Nat.zero_le]
   unfold Q9
   refine WM fun h' K ok => ?_
   obtain ⟨k, hk⟩ : ∃ k : Nat, op = k := ⟨op.toNat, by omega⟩
   subst hk
   obtain ⟨x, x1, x2, x3, x4⟩ := WO (i := k) (by omega)
   have nU : qx (k : Int) = x := by unfold qx; rw [hi, if_pos rfl]; exact x2
   refine (aeR (by omega) (by have : FT.flatten.length = 315 := (by kernel_rfl); omega)).2 ?_
   rw [WN (fun y hy => ?_) x1]
   rotate_left
   · have h1 : FT.all (fun x => decide (x.length = 9)) = true := by kernel_rfl
     exact of_decide_eq_true (List.all_eq_true.1 h1 y hy)
   have hc : h'.can h.nx 0 9 := (afQ K (Nat.lt_succ_self _)).2 (by rw [AH.Gx, if_pos rfl]; exact Nat.le_refl 9)
   refine (Gm hc (show (cellsOf (.agg ⟨x⟩)).length = 9 from x3) x4).2 ?_
   refine (Gl (l := x) (AH.afM x3 hc) x3 (by decide)).2 ?_
   simp only [nU, hi] at H
   exact H _ (((cU.new h _ _).trans K).wr (Nat.le_refl _) _ _) (fun o => AH.se (ok (AH.sd o _ _)) _ _ _)
 · have du : ¬ (1 ≤ op ∧ op ≤ 34) := by unfold isOp at hi; rwa [decide_eq_true_eq] at hi
   have hf : qx op = [(bs []), vi 0, vi 0, vi 0, vi 0, vi 0, vi 0, .bool false, .bool false] := by unfold qx; rw [if_neg hi]; rfl
   have hb : isOp op = false := by simpa using hi
   by_cases e1 : op < 1
   · simp only [decide_eq_true e1, DQ, pr, ld, pn, M9, Na, Nb, Nc, Nd, Nk, Nl, Nf, Ng, Nh, Ni, Nj, ck, Gi, bB, cond_true, cond_false, cr, al, NB, lM (show 0 < 2 by decide), lM (show 0 < 3 by decide), lM (show 0 < 4 by decide), lM (show 0 < 7 by decide), lM (show 0 < 9 by decide), NC, Gy, ND, AH.Ny, AH.Nx, AH.Gc, AH.MW, AH.Gx, AH.Nz, AH.lh, if_true, if_false, Nat.zero_add, Nat.add_zero, Nat.reduceAdd, bo, bp, bt, bw, NM, NN, NO, NP, List.getElem?_cons_zero, List.getElem?_cons_succ, Option.some.injEq, exists_eq_left', Option.bind_some, Option.map_some, cg, tP, jf, tQ, oY, qo, fy, M6, M7, decide_true, decide_false, Bool.not_true, Bool.not_false, Nat.left_eq_add, Nat.add_eq_zero_iff, Nat.add_eq_left, Nat.add_eq_right, Nat.reduceEqDiff, Nat.one_ne_zero, and_false, false_and, true_and, and_true, List.length_cons, List.length_nil, Nat.reduceLeDiff, Nat.le_refl, Nat.not_lt_zero, Nat.lt_irrefl, reduceCtorEq, NQ, sj, NF, NG, NH, NI, NJ, NK, NL, Bool.and_self, Bool.and_true, Bool.true_and, cQ, Gz, NV, kq, kp, List.take_zero, List.take_succ_cons, List.drop_zero, List.drop_succ_cons, List.drop_nil, List.take_nil, and_self, ↓reduceIte, List.flatMap_cons, List.flatMap_nil, List.cons_append, List.nil_append, List.append_nil, Bz, Gj, Nat.sub_zero, Nat.reduceSub, Nat.reduceLT, AH.NA, Nat.zero_le, gE (show kq [(bs []), (vi 0), (vi 0), (vi 0), (vi 0), (vi 0), (vi 0), (.bool false), (.bool false)] [] [] = some [(bs []), (vi 0), (vi 0), (vi 0), (vi 0), (vi 0), (vi 0), (.bool false), (.bool false)] from rfl)]
     simp only [hf, hb] at H
     exact H _ ((cU.new h _ _).wr (Nat.le_refl _) _ _) (fun o => AH.se (AH.sd o _ _) _ _ _)
   · have e2 : 34 < op := by omega
     simp only [decide_eq_false e1, decide_eq_true e2, DQ, pr, ld, pn, M9, Na, Nb, Nc, Nd, Nk, Nl, Nf, Ng, Nh, Ni, Nj, ck, Gi, bB, cond_true, cond_false, cr, al, NB, lM (show 0 < 2 by decide), lM (show 0 < 3 by decide), lM (show 0 < 4 by decide), lM (show 0 < 7 by decide), lM (show 0 < 9 by decide), NC, Gy, ND, AH.Ny, AH.Nx, AH.Gc, AH.MW, AH.Gx, AH.Nz, AH.lh, if_true, if_false, Nat.zero_add, Nat.add_zero, Nat.reduceAdd, bo, bp, bt, bw, NM, NN, NO, NP, List.getElem?_cons_zero, List.getElem?_cons_succ, Option.some.injEq, exists_eq_left', Option.bind_some, Option.map_some, cg, tP, jf, tQ, oY, qo, fy, M6, M7, decide_true, decide_false, Bool.not_true, Bool.not_false, Nat.left_eq_add, Nat.add_eq_zero_iff, Nat.add_eq_left, Nat.add_eq_right, Nat.reduceEqDiff, Nat.one_ne_zero, and_false, false_and, true_and, and_true, List.length_cons, List.length_nil, Nat.reduceLeDiff, Nat.le_refl, Nat.not_lt_zero, Nat.lt_irrefl, reduceCtorEq, NQ, sj, NF, NG, NH, NI, NJ, NK, NL, Bool.and_self, Bool.and_true, Bool.true_and, cQ, Gz, NV, kq, kp, List.take_zero, List.take_succ_cons, List.drop_zero, List.drop_succ_cons, List.drop_nil, List.take_nil, and_self, ↓reduceIte, List.flatMap_cons, List.flatMap_nil, List.cons_append, List.nil_append, List.append_nil, Bz, Gj, Nat.sub_zero, Nat.reduceSub, Nat.reduceLT, AH.NA, Nat.zero_le, gE (show kq [(bs []), (vi 0), (vi 0), (vi 0), (vi 0), (vi 0), (vi 0), (.bool false), (.bool false)] [] [] = some [(bs []), (vi 0), (vi 0), (vi 0), (vi 0), (vi 0), (vi 0), (.bool false), (.bool false)] from rfl)]
     simp only [hf, hb] at H
     exact H _ ((cU.new h _ _).wr (Nat.le_refl _) _ _) (fun o => AH.se (AH.sd o _ _) _ _ _)
end
end
end Go.Ve.T
namespace Go.Ve.T
open Go.Ve Go.Proofs
noncomputable section
set_option maxRecDepth 20000
def akL : List wW := [
⟨bytesOf [], ⟨0, 0, 0⟩, 0, ⟨0, 0⟩, false, false⟩,
⟨bytesOf [105, 110, 116], ⟨1, 4, 0⟩, 1, ⟨0, 0⟩, false, false⟩,
⟨bytesOf [98, 111, 111, 108], ⟨1, 5, 0⟩, 1, ⟨0, 0⟩, false, false⟩,
⟨bytesOf [118, 111, 105, 100], ⟨1, 0, 0⟩, 1, ⟨0, 0⟩, false, false⟩,
⟨bytesOf [109, 111, 118, 101], ⟨1, 1, 0⟩, 1, ⟨2, 0⟩, false, false⟩,
⟨bytesOf [115, 101, 108, 102], ⟨1, 0, 0⟩, 1, ⟨0, 0⟩, false, false⟩,
⟨bytesOf [97, 100, 100], ⟨1, 1, 1⟩, 1, ⟨2, 3⟩, true, false⟩,
⟨bytesOf [115, 117, 98], ⟨1, 1, 1⟩, 1, ⟨2, 3⟩, true, false⟩,
⟨bytesOf [109, 117, 108], ⟨1, 1, 1⟩, 1, ⟨2, 3⟩, true, false⟩,
⟨bytesOf [100, 105, 118], ⟨1, 1, 1⟩, 1, ⟨2, 3⟩, true, false⟩,
⟨bytesOf [109, 111, 100], ⟨1, 1, 1⟩, 1, ⟨2, 3⟩, true, false⟩,
⟨bytesOf [110, 101, 103], ⟨1, 1, 0⟩, 1, ⟨2, 0⟩, false, false⟩,
⟨bytesOf [101, 113], ⟨1, 1, 1⟩, 1, ⟨2, 3⟩, false, false⟩,
⟨bytesOf [108, 101, 115, 115], ⟨1, 1, 1⟩, 1, ⟨2, 3⟩, false, false⟩,
⟨bytesOf [109, 111, 115, 116], ⟨1, 1, 1⟩, 1, ⟨2, 3⟩, false, false⟩,
⟨bytesOf [110, 111, 116], ⟨1, 1, 0⟩, 1, ⟨2, 0⟩, false, false⟩,
⟨bytesOf [104, 97, 115], ⟨1, 1, 0⟩, 1, ⟨2, 0⟩, false, false⟩,
⟨bytesOf [103, 101, 116], ⟨1, 2, 7⟩, 1, ⟨2, 0⟩, true, false⟩,
⟨bytesOf [115, 101, 116], ⟨7, 1, 0⟩, 0, ⟨2, 0⟩, false, false⟩,
⟨bytesOf [97, 114, 103], ⟨6, 1, 0⟩, 0, ⟨2, 0⟩, false, false⟩,
⟨bytesOf [99, 97, 108, 108], ⟨2, 2, 8⟩, 1, ⟨2, 0⟩, true, false⟩,
⟨bytesOf [110, 101, 119], ⟨1, 10, 5⟩, 1, ⟨0, 0⟩, true, false⟩,
⟨bytesOf [109, 97, 107, 101], ⟨1, 9, 0⟩, 0, ⟨1, 0⟩, true, false⟩,
⟨bytesOf [105, 110, 118], ⟨2, 0, 0⟩, 0, ⟨1, 0⟩, true, false⟩,
⟨bytesOf [106, 117, 109, 112], ⟨3, 0, 0⟩, 0, ⟨0, 0⟩, false, true⟩,
⟨bytesOf [102, 97, 108, 115, 101], ⟨1, 3, 0⟩, 0, ⟨1, 0⟩, false, false⟩,
⟨bytesOf [114, 97, 105, 115, 101], ⟨11, 0, 0⟩, 0, ⟨0, 0⟩, true, true⟩,
⟨bytesOf [102, 97, 105, 108], ⟨0, 0, 0⟩, 0, ⟨0, 0⟩, true, true⟩,
⟨bytesOf [114, 101, 116], ⟨2, 0, 0⟩, 0, ⟨1, 0⟩, false, true⟩,
⟨bytesOf [112, 117, 116], ⟨1, 0, 0⟩, 0, ⟨1, 0⟩, false, false⟩,
⟨bytesOf [101, 110, 116, 101, 114], ⟨1, 0, 0⟩, 0, ⟨1, 0⟩, true, false⟩,
⟨bytesOf [108, 101, 97, 118, 101], ⟨0, 0, 0⟩, 0, ⟨0, 0⟩, false, false⟩,
⟨bytesOf [97, 103, 97, 105, 110], ⟨1, 3, 0⟩, 0, ⟨1, 0⟩, true, false⟩,
⟨bytesOf [108, 111, 97, 100], ⟨1, 12, 0⟩, 1, ⟨0, 0⟩, false, false⟩,
⟨bytesOf [115, 116, 111, 114, 101], ⟨12, 1, 0⟩, 0, ⟨2, 0⟩, false, false⟩]
def wW.cells (x : wW) : List Value := [.string x.um, vi x.fp.e0, vi x.fp.e1, vi x.fp.e2, vi x.sF, vi x.kB.e0, vi x.kB.e1, .bool x.ll, .bool x.kC]
def Zi : wW := ⟨bytesOf [], ⟨0, 0, 0⟩, 0, ⟨0, 0⟩, false, false⟩
def iV (op : Int) : wW := bif isOp op then akL.getD op.toNat Zi else Zi
theorem akM (op : Int) : (iV op).cells = qx op := by
 unfold iV qx
 cases hi : isOp op with
 | false => rfl
 | true => rcases GZ hi with rfl | rfl | rfl | rfl | rfl | rfl | rfl | rfl | rfl | rfl | rfl | rfl | rfl | rfl | rfl | rfl | rfl | rfl | rfl | rfl | rfl | rfl | rfl | rfl | rfl | rfl | rfl | rfl | rfl | rfl | rfl | rfl | rfl | rfl <;> rfl
def Co (x0 : Int) : Option (wW × Bool) := some (iV x0, isOp x0)
theorem HM {w0 : World} {g h : AH} {Q : CR → AH → Prop} {r : wW × Bool} (x0 : Int) (sg : Sub g h) (ok : h.Ok) (M : Co x0 = some r)
 (H : ∀ (g' h' : AH), Sep ⟨g, h, []⟩ g' h' [] → Q (.ret (.tuple ⟨[(.agg ⟨[(.string r.1.um), (vi r.1.fp.e0), (vi r.1.fp.e1), (vi r.1.fp.e2), (vi r.1.sF), (vi r.1.kB.e0), (vi r.1.kB.e1), (.bool r.1.ll), (.bool r.1.kC)]⟩), (.bool r.2)]⟩)) h') : WF PP w0 uQ [vi x0] h Q := by
 cases M
 refine WQ x0 fun h' K od => ?_
 have := H g h' ((Sep.start sg ok).cj K (od ok))
 rw [← akM]; exact this
end
end Go.Ve.T
namespace Go.Ve.T
open Go.Ve Go.Proofs
noncomputable section
set_option maxRecDepth 10000
def qW (w0 : World) (g : AH) (fv : Value) (f : Int → Option Bool) : Prop := eH fv = true ∧ ∀ (a0 : Int) (r : Bool) (E K : Value → W) (g2 h2 : AH), Sub g g2 → Sub g2 h2 → h2.Ok → f a0 = some r → (∀ (g' h' : AH), Sep ⟨g2, h2, []⟩ g' h' [] → K (.bool r) h') → dy PP w0 [fv, (vi a0)] E K h2
theorem qW.mono {w0 : World} {g g' : AH} {fv : Value} {f : Int → Option Bool} (H : qW w0 g fv f) (S : Sub g g') : qW w0 g' fv f := ⟨H.1, fun a0 r E K g2 h2 s1 => H.2 a0 r E K g2 h2 (Sub.trans S s1)⟩
def pe (w0 : World) (g : AH) (fv : Value) (f : aE → Option Bool) : Prop := eH fv = true ∧ ∀ (a0 : aE) (r : Bool) (E K : Value → W) (g2 h2 : AH), Sub g g2 → Sub g2 h2 → h2.Ok → f a0 = some r → (∀ (g' h' : AH), Sep ⟨g2, h2, []⟩ g' h' [] → K (.bool r) h') → dy PP w0 [fv, (.agg ⟨[(vi a0.dZ), (vi a0.eK), (vi a0.dM)]⟩)] E K h2
theorem pe.mono {w0 : World} {g g' : AH} {fv : Value} {f : aE → Option Bool} (H : pe w0 g fv f) (S : Sub g g') : pe w0 g' fv f := ⟨H.1, fun a0 r E K g2 h2 s1 => H.2 a0 r E K g2 h2 (Sub.trans S s1)⟩
def om (x0 : Int) (x1 : Int) (x2 : Int) : Option Bool :=
 bif (decide (x1 ≤ x0)) then (
 some (decide (x0 ≤ x2))) else (
 some false)
abbrev aht (c : Cx) (R : Value → W) (r : Bool) : Prop := ∀ (g' h' : AH), Sep c g' h' [] → R (.bool r) h'
theorem uj {w0 : World} {g h : AH} {Q : CR → AH → Prop} {r : Bool} {x0 x1 x2 : Int} (M : om x0 x1 x2 = some r) (sg : Sub g h) (ok : h.Ok)  (H : aht ⟨g, h, []⟩ (fun v => Q (.ret v)) r) : WF PP w0 pO [(vi x0), (vi x1), (vi x2)] h Q := by
 refine ZU _ _ _ ?_
 have S := Sep.start sg ok
 unfold Q6
 unfold om at M
 refine tQ.2 ?_
 cases hc : (decide (x1 ≤ x0))
 · have M := aX hc M
   refine aI (by decide) ?_
   refine aI (by decide) ?_
   refine aI (by decide) ?_
   refine bB.2 ?_
   cases M
   exact H _ _  S.bJ
 · have M := aV hc M
   refine aH rfl ?_
   refine aH rfl ?_
   refine aH rfl ?_
   refine tQ.2 ?_
   refine bB.2 ?_
   cases M
   exact H _ _  S.bJ
def OY (x0 : aq) : Option dW :=
 some (dW.mk x0.fA x0.fB x0.fC)
abbrev ahu (c : Cx) (R : Value → W) (r : dW) : Prop := ∀ (g' h' : AH), Sep c g' h' [] → R (.agg ⟨[(vi r.e0), (vi r.e1), (vi r.e2)]⟩) h'
theorem ahv {w0 : World} {g h : AH} {Q : CR → AH → Prop} {r : dW} {x0 : aq} (M : OY x0 = some r) (sg : Sub g h) (ok : h.Ok)  (H : ahu ⟨g, h, []⟩ (fun v => Q (.ret v)) r) : WF PP w0 IS [(.agg ⟨[(vi x0.aJ), (vi x0.fA), (vi x0.fB), (vi x0.fC)]⟩)] h Q := by
 refine Z2 _ ?_
 have S := Sep.start sg ok
 unfold Re
 unfold OY at M
 refine S.box [(vi x0.aJ), (vi x0.fA), (vi x0.fB), (vi x0.fC)] rfl (ab rfl (ab rfl (ab rfl (ab rfl rfl)))) (fun jF h S => ?_)
 refine S.alloc (l := [(vi 0), (vi 0), (vi 0)]) (ab rfl (ab rfl (ab rfl rfl))) (fun wG h S => ?_)
 refine cr.2 ?_
 refine S.bj 1 rfl rfl ?_
 refine cr.2 ?_
 refine S.bj 1 rfl rfl ?_
 refine cr.2 ?_
 refine S.bj 1 rfl rfl ?_
 refine dD [(vi x0.fA), (vi x0.fB), (vi x0.fC)] (by simp only [cQ, bo, bp, bt, bw,  List.length_cons, List.length_nil, Nat.reduceAdd, Nat.zero_add, decide_true, Bool.and_self]) (by simp only [List.flatMap_cons, List.flatMap_nil, bo, bp, bt, bw,  List.cons_append, List.nil_append, List.append_nil]) ?_
 refine S.cv [(vi x0.fA), (vi x0.fB), (vi x0.fC)] [(vi x0.fA), (vi x0.fB), (vi x0.fC)] rfl rfl (ab rfl (ab rfl (ab rfl rfl))) (Nat.le_of_ble_eq_true rfl) rfl (fun h S => ?_)
 refine S.c8 [(vi x0.fA), (vi x0.fB), (vi x0.fC)] 0 rfl rfl rfl (by decide) ?_
 cases M
 exact H _ _  S.bJ
def HK (N : Nat) (ak : Int) (cG : List Int) (qX : aq) (lO : (List Int) → Int → Option ((List Int))) : Option ((List Int)) :=
 lO cG (bf .i64 (ak + 1))
def OZ (N : Nat) (v11 : dW) (ak : Int) (v1 : aq) (az : List Int) (lO : (List Int) → Int → Option ((List Int))) : Option ((List Int)) :=
(ix [v11.e0, v11.e1, v11.e2] ak).bind fun pg =>
 bif (decide (pg = 3)) then (
(OY v1).bind fun eT =>
(ix [eT.e0, eT.e1, eT.e2] ak).bind fun lk =>
 gu (decide (az.length + [lk].length ≤ 1048576)) (
 HK N ak (az ++ [lk]) v1 lO)) else (
 HK N ak az v1 lO)
def O0 (N : Nat) (y9 : List Int)  : Option ((List Int)) :=
 some y9
def O1 (N : Nat) (v11 : dW) (v1 : aq) (az : List Int) (ak : Int) (lO : (List Int) → Int → Option ((List Int))) : Option ((List Int)) :=
 bif (decide (ak < 3)) then (
 OZ N v11 ak v1 az lO) else (
 O0 N az)
def HL (N : Nat) (v11 : dW) (v1 : aq)  : Nat → (List Int) → Int → Option ((List Int))
 | 0, _, _ => none
 | n + 1, az, ak => O1 N v11 v1 az ak  (fun av aY => HL N v11 v1 n av aY)
def wH (N : Nat) (x0 : aq) : Option ((List Int)) :=
(Co x0.aJ).bind fun bD =>
 HL N bD.1.fp x0 N ([] : List Int) 0
abbrev yV (c : Cx) (R : Value → W) (r : (List Int)) : Prop := ∀ (g' h' : AH) (w1 : Value), Sep c g' h' [] → ae (rI .i64) 1 g' w1 r → R w1 h'
theorem XZ {w0 : World} {c : Cx} {g h : AH} {E R : Value → W} {r : (List Int)} {N : Nat} {ak : Int} {cG : List Int} {qX : aq} {X0 : Value} {X1 : List (List Value)} {X2 : Nat} {lr : Value → Value → W} {lO : (List Int) → Int → Option ((List Int))} {uk : AH} (M : HK N ak cG qX lO = some r) (S : Sep c g h [.sl 3 1 X0 X1, .bx X2 [(vi qX.aJ), (vi qX.fA), (vi qX.fB), (vi qX.fC)]]) (ahw : aM ((rI .i64) g) X1 cG) (yW : Sub uk g) (yX : ∀ {av : List Int} {kz : Value} {kA : List (List Value)} {aY : Int} {g2 h2 : AH}, lO av aY = some r → Sub uk g2 → Sep c g2 h2 [.bx X2 [(vi qX.aJ), (vi qX.fA), (vi qX.fB), (vi qX.fC)], .sl 3 1 kz kA] → aM ((rI .i64) g2) kA av → lr kz (vi aY) h2) (H : yV c R r) : DT w0 E R (vi ak) lr X0 h := by
 unfold DT
 unfold HK at M
 refine iw.2 ?_
 have S := S.f1
 exact yX M yW S ahw
theorem ahx {w0 : World} {c : Cx} {g h : AH} {E R : Value → W} {r : (List Int)} {N : Nat} {v11 : dW} {ak : Int} {v1 : aq} {az : List Int} {ar : Nat} {qY : Value} {ph : List (List Value)} {lr : Value → Value → W} {lO : (List Int) → Int → Option ((List Int))} {uk : AH} (M : OZ N v11 ak v1 az lO = some r) (S : Sep c g h [.bx ar [(vi v1.aJ), (vi v1.fA), (vi v1.fB), (vi v1.fC)], .sl 3 1 qY ph]) (qZ : aM ((rI .i64) g) ph az) (yW : Sub uk g) (yX : ∀ {av : List Int} {kz : Value} {kA : List (List Value)} {aY : Int} {g2 h2 : AH}, lO av aY = some r → Sub uk g2 → Sep c g2 h2 [.bx ar [(vi v1.aJ), (vi v1.fA), (vi v1.fB), (vi v1.fC)], .sl 3 1 kz kA] → aM ((rI .i64) g2) kA av → lr kz (vi aY) h2) (H : yV c R r) : IU w0 E R (.agg ⟨[(vi v11.e0), (vi v11.e1), (vi v11.e2)]⟩) (vi ak) (al ar 0) qY lr h := by
 unfold IU
 unfold OZ at M
 obtain ⟨pg, wI, M⟩ := bind_some M
 refine XX [v11.e0, v11.e1, v11.e2] (fun q => (vi q)) rfl wI ?_
 refine cg.2 ?_
 refine bK (fun hc => ?_) (fun hc => ?_)
 · have M := aV hc M
   refine S.c8 [(vi v1.aJ), (vi v1.fA), (vi v1.fB), (vi v1.fC)] 0 rfl rfl rfl (by decide) ?_
   obtain ⟨eT, pk, M⟩ := bind_some M
   refine ahv pk S.sub S.ok (fun _ h  S1  => ?_)
   have S := S.eo S1
   obtain ⟨lk, ahy, M⟩ := bind_some M
   refine XX [eT.e0, eT.e1, eT.e2] (fun q => (vi q)) rfl ahy ?_
   refine S.ue [[(vi lk)]] (cJ (m := [(vi lk)]) (l2 := [(vi lk)]) rfl rfl (Nat.le_of_ble_eq_true rfl) rfl rfl) rfl (by decide) (uh rfl ug) (ab rfl rfl) (fun aml h S => ?_)
   have O2 : aM ((rI .i64) g) [[(vi lk)]] [lk] := (aM.push aM.nil (show (rI .i64) g [(vi lk)] lk from rfl))
   have S := S.f2
   obtain ⟨ahz, M⟩ := qQ M
   refine S.app (S.rd 1 rfl) (by rw [qZ.1, O2.1]; exact ahz) (by decide) rfl (qU (qT .i64) O2) (qU (qT .i64) qZ) (fun amm h S => ?_)
   have ahA : aM ((rI .i64) g) (ph ++ [[(vi lk)]]) (az ++ [lk]) := aM.append qZ O2
   have S := S.f2
   have S := S.f1
   have S := S.t2
   exact XZ M S ahA yW yX H
 · have M := aX hc M
   have S := S.f1
   exact XZ M S qZ yW yX H
theorem ahB {w0 : World} {c : Cx} {g h : AH} {E R : Value → W} {r : (List Int)} {N : Nat} {y9 : List Int} {O3 : Value} {X3 : List (List Value)}  (M : O0 N y9 = some r) (S : Sep c g h [.sl 3 1 O3 X3]) (ahC : aM ((rI .i64) g) X3 y9)  (H : yV c R r) : IT w0 E R O3 h := by
 unfold IT
 unfold O0 at M
 obtain ⟨g, sg, S, ahD⟩ := S.fz ahC (fG .i64)
 cases M
 exact H _ _ O3 S.bJ ahD
theorem ahE {w0 : World} {c : Cx} {g h : AH} {E R : Value → W} {r : (List Int)} {N : Nat} {v11 : dW} {v1 : aq} {az : List Int} {ak : Int} {ar : Nat} {qY : Value} {ph : List (List Value)} {lr : Value → Value → W} {lO : (List Int) → Int → Option ((List Int))} {uk : AH} (M : O1 N v11 v1 az ak lO = some r) (S : Sep c g h [.bx ar [(vi v1.aJ), (vi v1.fA), (vi v1.fB), (vi v1.fC)], .sl 3 1 qY ph]) (qZ : aM ((rI .i64) g) ph az) (yW : Sub uk g) (yX : ∀ {av : List Int} {kz : Value} {kA : List (List Value)} {aY : Int} {g2 h2 : AH}, lO av aY = some r → Sub uk g2 → Sep c g2 h2 [.bx ar [(vi v1.aJ), (vi v1.fA), (vi v1.fB), (vi v1.fC)], .sl 3 1 kz kA] → aM ((rI .i64) g2) kA av → lr kz (vi aY) h2) (H : yV c R r) : DU w0 E R (.agg ⟨[(vi v11.e0), (vi v11.e1), (vi v11.e2)]⟩) (al ar 0) lr qY (vi ak) h := by
 unfold DU
 unfold O1 at M
 refine jf.2 ?_
 refine bK (fun hc => ?_) (fun hc => ?_)
 · have M := aV hc M
   exact ahx M S qZ yW yX H
 · have M := aX hc M
   have S := S.f1
   have S := S.t1
   exact ahB M S qZ H
theorem ahF {w0 : World} {c : Cx} {E R : Value → W} {r : (List Int)} {N : Nat} {v11 : dW} {v1 : aq} {ar : Nat}   (H : yV c R r) : ∀ (n : Nat) {az : List Int} {ak : Int} {qY : Value} {ph : List (List Value)} {g h : AH}, HL N v11 v1 n az ak = some r → Sep c g h [.bx ar [(vi v1.aJ), (vi v1.fA), (vi v1.fB), (vi v1.fC)], .sl 3 1 qY ph] → aM ((rI .i64) g) ph az → jX (α := Value × Value) (fun k a => DU w0 E R (.agg ⟨[(vi v11.e0), (vi v11.e1), (vi v11.e2)]⟩) (al ar 0) (fun b0 b1 => k (b0, b1)) a.1 a.2) n (qY, (vi ak)) h := by
 intro n
 induction n with
 | zero =>
  intro az ak qY ph g h M S qZ
  unfold HL at M; cases M
 | succ n ih =>
  intro az ak qY ph g h M S qZ
  exact ahE M S qZ  (Sub.refl g) (fun M2 sub S2 O4 => ih M2 S2 O4 ) H
theorem X4 {w0 : World} {g h : AH} {Q : CR → AH → Prop} {r : (List Int)} {N : Nat} {x0 : aq} (M : wH N x0 = some r) (sg : Sub g h) (ok : h.Ok)  (H : yV ⟨g, h, []⟩ (fun v => Q (.ret v)) r) : WF PP w0 DV [(.agg ⟨[(vi x0.aJ), (vi x0.fA), (vi x0.fB), (vi x0.fC)]⟩)] h Q := by
 refine Z4 _ ?_
 have S := Sep.start sg ok
 unfold Rf
 unfold wH at M
 refine S.box [(vi x0.aJ), (vi x0.fA), (vi x0.fB), (vi x0.fC)] rfl (ab rfl (ab rfl (ab rfl (ab rfl rfl)))) (fun jF h S => ?_)
 refine cr.2 ?_
 refine S.bj 0 rfl rfl ?_
 obtain ⟨bD, jE, M⟩ := bind_some M
 refine HM x0.aJ S.sub S.ok jE (fun _ h  S1  => ?_)
 have S := S.eo S1
 refine (gT rfl).2 ?_
 refine (gT rfl).2 ?_
 refine S.alloc (l := [(.string (⟨⟨[]⟩⟩ : ByteArray)), (vi 0), (vi 0), (vi 0), (vi 0), (vi 0), (vi 0), (.bool false), (.bool false)]) (ab rfl (ab rfl (ab rfl (ab rfl (ab rfl (ab rfl (ab rfl (ab rfl (ab rfl rfl))))))))) (fun HN h S => ?_)
 refine S.cv [(.string bD.1.um), (vi bD.1.fp.e0), (vi bD.1.fp.e1), (vi bD.1.fp.e2), (vi bD.1.sF), (vi bD.1.kB.e0), (vi bD.1.kB.e1), (.bool bD.1.ll), (.bool bD.1.kC)] [(.string bD.1.um), (vi bD.1.fp.e0), (vi bD.1.fp.e1), (vi bD.1.fp.e2), (vi bD.1.sF), (vi bD.1.kB.e0), (vi bD.1.kB.e1), (.bool bD.1.ll), (.bool bD.1.kC)] rfl rfl (ab rfl (ab rfl (ab rfl (ab rfl (ab rfl (ab rfl (ab rfl (ab rfl (ab rfl rfl))))))))) (Nat.le_of_ble_eq_true rfl) rfl (fun h S => ?_)
 refine cr.2 ?_
 refine S.c8 [(vi bD.1.fp.e0), (vi bD.1.fp.e1), (vi bD.1.fp.e2)] 0 rfl rfl rfl (by decide) ?_
 have S := S.OK 3 1
 have S := S.f2
 have S := S.t2
 exact ⟨N, ahF  H _ M S (aM.nil (R := (rI .i64) g)) ⟩
def O5 (N : Nat) (y3 : Int) (cK : Int → Option Int) : Option Int :=
 cK (bf .i64 (y3 + 1))
def O6 (N : Nat) (x0 : List Int) (y3 : Int) (x1 : Int → Option Bool) (cK : Int → Option Int) : Option Int :=
(ix x0 y3).bind fun fo =>
(x1 fo).bind fun eT =>
 bif eT then (
 some y3) else (
 O5 N y3 cK)
def O7 (N : Nat)   : Option Int :=
 some (-1)
def O8 (N : Nat) (v1 : Int) (x0 : List Int) (x1 : Int → Option Bool) (y3 : Int) (cK : Int → Option Int) : Option Int :=
 bif (decide (y3 < v1)) then (
 O6 N x0 y3 x1 cK) else (
 O7 N )
def yY (N : Nat) (v1 : Int) (x0 : List Int) (x1 : Int → Option Bool)  : Nat → Int → Option Int
 | 0, _ => none
 | n + 1, y3 => O8 N v1 x0 x1 y3  (fun av => yY N v1 x0 x1 n av)
def Cp (N : Nat) (x0 : List Int) (x1 : Int → Option Bool) : Option Int :=
 yY N (x0.length : Int) x0 x1 N 0
abbrev yZ (c : Cx) (R : Value → W) (r : Int) : Prop := ∀ (g' h' : AH), Sep c g' h' [] → R (vi r) h'
theorem ahG {w0 : World} {c : Cx} {g h : AH} {E R : Value → W} {r : Int} {N : Nat} {y3 : Int} {k2 : Value → W} {cK : Int → Option Int} {gz : AH} (M : O5 N y3 cK = some r) (S : Sep c g h [])  (kD : Sub gz g) (kE : ∀ {av : Int} {g2 h2 : AH}, cK av = some r → Sub gz g2 → Sep c g2 h2 [] → k2 (vi av) h2) (H : yZ c R r) : IL w0 E R (vi y3) k2 h := by
 unfold IL
 unfold O5 at M
 refine iw.2 ?_
 exact kE M kD S
theorem ahH {w0 : World} {c : Cx} {g h : AH} {E R : Value → W} {r : Int} {N : Nat} {x0 : List Int} {y3 : Int} {x1 : Int → Option Bool} {bZ bS : Value} {k2 : Value → W} {cK : Int → Option Int} {gz : AH} (M : O6 N x0 y3 x1 cK = some r) (S : Sep c g h []) (cA : ae (rI .i64) 1 g bZ x0) (bX : qW w0 g bS x1) (kD : Sub gz g) (kE : ∀ {av : Int} {g2 h2 : AH}, cK av = some r → Sub gz g2 → Sep c g2 h2 [] → k2 (vi av) h2) (H : yZ c R r) : IM w0 E R bZ (vi y3) bS k2 h := by
 unfold IM
 unfold O6 at M
 obtain ⟨fo, lN, M⟩ := bind_some M
 refine ae.idx cA lN (fun wq Oq vs Ot wu rp => ?_)
 cases rp
 refine S.gr (wu 0 _ rfl) ?_
 obtain ⟨eT, pk, M⟩ := bind_some M
 refine bX.2 fo _ _ _ _ _ (Sub.refl _) S.sub S.ok  pk (fun _ h  S1  => ?_)
 have S := S.eo S1
 refine bK (fun hc => ?_) (fun hc => ?_)
 · have M := aV hc M
   cases M
   exact H _ _  S.bJ
 · have M := aX hc M
   exact ahG M S kD kE H
theorem ahI {w0 : World} {c : Cx} {g h : AH} {E R : Value → W} {r : Int} {N : Nat}   (M : O7 N  = some r) (S : Sep c g h [])   (H : yZ c R r) : IK w0 E R  h := by
 unfold IK
 unfold O7 at M
 cases M
 exact H _ _  S.bJ
theorem ahJ {w0 : World} {c : Cx} {g h : AH} {E R : Value → W} {r : Int} {N : Nat} {v1 : Int} {x0 : List Int} {x1 : Int → Option Bool} {y3 : Int} {bZ bS : Value} {k2 : Value → W} {cK : Int → Option Int} {gz : AH} (M : O8 N v1 x0 x1 y3 cK = some r) (S : Sep c g h []) (cA : ae (rI .i64) 1 g bZ x0) (bX : qW w0 g bS x1) (kD : Sub gz g) (kE : ∀ {av : Int} {g2 h2 : AH}, cK av = some r → Sub gz g2 → Sep c g2 h2 [] → k2 (vi av) h2) (H : yZ c R r) : DP w0 E R (vi v1) bZ bS k2 (vi y3) h := by
 unfold DP
 unfold O8 at M
 refine jf.2 ?_
 refine bK (fun hc => ?_) (fun hc => ?_)
 · have M := aV hc M
   exact ahH M S cA bX kD kE H
 · have M := aX hc M
   exact ahI M S  H
theorem ahK {w0 : World} {c : Cx} {E R : Value → W} {r : Int} {N : Nat} {v1 : Int} {x0 : List Int} {x1 : Int → Option Bool} {bZ bS : Value}   (H : yZ c R r) : ∀ (n : Nat) {y3 : Int} {g h : AH}, yY N v1 x0 x1 n y3 = some r → Sep c g h [] → ae (rI .i64) 1 g bZ x0 → qW w0 g bS x1 → jX (α := Value) (fun k a => DP w0 E R (vi v1) bZ bS k a) n (vi y3) h := by
 intro n
 induction n with
 | zero =>
  intro y3  g h M S cA bX
  unfold yY at M; cases M
 | succ n ih =>
  intro y3  g h M S cA bX
  exact ahJ M S cA bX  (Sub.refl g) (fun M2 sub S2  => ih M2 S2 (ae.mono cA (fG .i64) sub) (qW.mono bX sub) ) H
theorem ahL {w0 : World} {g h : AH} {Q : CR → AH → Prop} {r : Int} {N : Nat} {x0 : List Int} {x1 : Int → Option Bool} {bZ bS : Value} (M : Cp N x0 x1 = some r) (sg : Sub g h) (ok : h.Ok) (cA : ae (rI .i64) 1 g bZ x0) (bX : qW w0 g bS x1) (H : yZ ⟨g, h, []⟩ (fun v => Q (.ret v)) r) : WF PP w0 IN [bZ, bS] h Q := by
 refine ZW _ _ ?_
 have S := Sep.start sg ok
 unfold Q7
 unfold Cp at M
 refine cA.len ?_
 exact ⟨N, ahK  H _ M S cA bX ⟩
def Cq (N : Nat) (x0 : List Int) (x1 : Int → Option Bool) : Option Bool :=
(Cp N x0 x1).bind fun fo =>
 some (decide (0 ≤ fo))
abbrev ahM (c : Cx) (R : Value → W) (r : Bool) : Prop := ∀ (g' h' : AH), Sep c g' h' [] → R (.bool r) h'
theorem ahN {w0 : World} {g h : AH} {Q : CR → AH → Prop} {r : Bool} {N : Nat} {x0 : List Int} {x1 : Int → Option Bool} {bZ bS : Value} (M : Cq N x0 x1 = some r) (sg : Sub g h) (ok : h.Ok) (cA : ae (rI .i64) 1 g bZ x0) (bX : qW w0 g bS x1) (H : ahM ⟨g, h, []⟩ (fun v => Q (.ret v)) r) : WF PP w0 IP [bZ, bS] h Q := by
 refine ZY _ _ ?_
 have S := Sep.start sg ok
 unfold Q8
 unfold Cq at M
 obtain ⟨fo, lN, M⟩ := bind_some M
 refine ahL lN S.sub S.ok cA bX (fun _ h  S1  => ?_)
 have S := S.eo S1
 refine qo.2 ?_
 cases M
 exact H _ _  S.bJ
def O9 (N : Nat) (y3 : Int) (cK : Int → Option Int) : Option Int :=
 cK (bf .i64 (y3 + 1))
def Pa (N : Nat) (x0 : List aE) (y3 : Int) (x1 : aE → Option Bool) (cK : Int → Option Int) : Option Int :=
(ix x0 y3).bind fun fo =>
(x1 fo).bind fun eT =>
 bif eT then (
 some y3) else (
 O9 N y3 cK)
def Pb (N : Nat)   : Option Int :=
 some (-1)
def Pc (N : Nat) (v1 : Int) (x0 : List aE) (x1 : aE → Option Bool) (y3 : Int) (cK : Int → Option Int) : Option Int :=
 bif (decide (y3 < v1)) then (
 Pa N x0 y3 x1 cK) else (
 Pb N )
def y7 (N : Nat) (v1 : Int) (x0 : List aE) (x1 : aE → Option Bool)  : Nat → Int → Option Int
 | 0, _ => none
 | n + 1, y3 => Pc N v1 x0 x1 y3  (fun av => y7 N v1 x0 x1 n av)
def za (N : Nat) (x0 : List aE) (x1 : aE → Option Bool) : Option Int :=
 y7 N (x0.length : Int) x0 x1 N 0
abbrev zb (c : Cx) (R : Value → W) (r : Int) : Prop := ∀ (g' h' : AH), Sep c g' h' [] → R (vi r) h'
theorem ahO {w0 : World} {c : Cx} {g h : AH} {E R : Value → W} {r : Int} {N : Nat} {y3 : Int} {k2 : Value → W} {cK : Int → Option Int} {gz : AH} (M : O9 N y3 cK = some r) (S : Sep c g h [])  (kD : Sub gz g) (kE : ∀ {av : Int} {g2 h2 : AH}, cK av = some r → Sub gz g2 → Sep c g2 h2 [] → k2 (vi av) h2) (H : zb c R r) : IW w0 E R (vi y3) k2 h := by
 unfold IW
 unfold O9 at M
 refine iw.2 ?_
 exact kE M kD S
theorem ahP {w0 : World} {c : Cx} {g h : AH} {E R : Value → W} {r : Int} {N : Nat} {x0 : List aE} {y3 : Int} {x1 : aE → Option Bool} {bZ bS : Value} {k2 : Value → W} {cK : Int → Option Int} {gz : AH} (M : Pa N x0 y3 x1 cK = some r) (S : Sep c g h []) (cA : ae aE.rep 3 g bZ x0) (bX : pe w0 g bS x1) (kD : Sub gz g) (kE : ∀ {av : Int} {g2 h2 : AH}, cK av = some r → Sub gz g2 → Sep c g2 h2 [] → k2 (vi av) h2) (H : zb c R r) : IX w0 E R bZ (vi y3) bS k2 h := by
 unfold IX
 unfold Pa at M
 obtain ⟨fo, lN, M⟩ := bind_some M
 refine ae.idx cA lN (fun wq Oq vs Ot wu rp => ?_)
 cases rp
 refine S.ua wu rfl (by decide) ?_
 obtain ⟨eT, pk, M⟩ := bind_some M
 refine bX.2 fo _ _ _ _ _ (Sub.refl _) S.sub S.ok  pk (fun _ h  S1  => ?_)
 have S := S.eo S1
 refine bK (fun hc => ?_) (fun hc => ?_)
 · have M := aV hc M
   cases M
   exact H _ _  S.bJ
 · have M := aX hc M
   exact ahO M S kD kE H
theorem ahQ {w0 : World} {c : Cx} {g h : AH} {E R : Value → W} {r : Int} {N : Nat}   (M : Pb N  = some r) (S : Sep c g h [])   (H : zb c R r) : IV w0 E R  h := by
 unfold IV
 unfold Pb at M
 cases M
 exact H _ _  S.bJ
theorem ahR {w0 : World} {c : Cx} {g h : AH} {E R : Value → W} {r : Int} {N : Nat} {v1 : Int} {x0 : List aE} {x1 : aE → Option Bool} {y3 : Int} {bZ bS : Value} {k2 : Value → W} {cK : Int → Option Int} {gz : AH} (M : Pc N v1 x0 x1 y3 cK = some r) (S : Sep c g h []) (cA : ae aE.rep 3 g bZ x0) (bX : pe w0 g bS x1) (kD : Sub gz g) (kE : ∀ {av : Int} {g2 h2 : AH}, cK av = some r → Sub gz g2 → Sep c g2 h2 [] → k2 (vi av) h2) (H : zb c R r) : DX w0 E R (vi v1) bZ bS k2 (vi y3) h := by
 unfold DX
 unfold Pc at M
 refine jf.2 ?_
 refine bK (fun hc => ?_) (fun hc => ?_)
 · have M := aV hc M
   exact ahP M S cA bX kD kE H
 · have M := aX hc M
   exact ahQ M S  H
theorem ahS {w0 : World} {c : Cx} {E R : Value → W} {r : Int} {N : Nat} {v1 : Int} {x0 : List aE} {x1 : aE → Option Bool} {bZ bS : Value}   (H : zb c R r) : ∀ (n : Nat) {y3 : Int} {g h : AH}, y7 N v1 x0 x1 n y3 = some r → Sep c g h [] → ae aE.rep 3 g bZ x0 → pe w0 g bS x1 → jX (α := Value) (fun k a => DX w0 E R (vi v1) bZ bS k a) n (vi y3) h := by
 intro n
 induction n with
 | zero =>
  intro y3  g h M S cA bX
  unfold y7 at M; cases M
 | succ n ih =>
  intro y3  g h M S cA bX
  exact ahR M S cA bX  (Sub.refl g) (fun M2 sub S2  => ih M2 S2 (ae.mono cA aE.mono sub) (pe.mono bX sub) ) H
theorem X5 {w0 : World} {g h : AH} {Q : CR → AH → Prop} {r : Int} {N : Nat} {x0 : List aE} {x1 : aE → Option Bool} {bZ bS : Value} (M : za N x0 x1 = some r) (sg : Sub g h) (ok : h.Ok) (cA : ae aE.rep 3 g bZ x0) (bX : pe w0 g bS x1) (H : zb ⟨g, h, []⟩ (fun v => Q (.ret v)) r) : WF PP w0 DY [bZ, bS] h Q := by
 refine Z8 _ _ ?_
 have S := Sep.start sg ok
 unfold Rh
 unfold za at M
 refine cA.len ?_
 exact ⟨N, ahS  H _ M S cA bX ⟩
def HO (N : Nat) (x0 : List aE) (x1 : aE → Option Bool) : Option Bool :=
(za N x0 x1).bind fun fo =>
 some (decide (0 ≤ fo))
abbrev ahT (c : Cx) (R : Value → W) (r : Bool) : Prop := ∀ (g' h' : AH), Sep c g' h' [] → R (.bool r) h'
theorem ahU {w0 : World} {g h : AH} {Q : CR → AH → Prop} {r : Bool} {N : Nat} {x0 : List aE} {x1 : aE → Option Bool} {bZ bS : Value} (M : HO N x0 x1 = some r) (sg : Sub g h) (ok : h.Ok) (cA : ae aE.rep 3 g bZ x0) (bX : pe w0 g bS x1) (H : ahT ⟨g, h, []⟩ (fun v => Q (.ret v)) r) : WF PP w0 Jj [bZ, bS] h Q := by
 refine aav _ _ ?_
 have S := Sep.start sg ok
 unfold RG
 unfold HO at M
 obtain ⟨fo, lN, M⟩ := bind_some M
 refine X5 lN S.sub S.ok cA bX (fun _ h  S1  => ?_)
 have S := S.eo S1
 refine qo.2 ?_
 cases M
 exact H _ _  S.bJ
def zc (x0 : Int) (x1 : Int) : Option Bool :=
(om x0 0 (bf .i64 (x1 - 1))).bind fun fo =>
 some (!fo)
abbrev ahV (c : Cx) (R : Value → W) (r : Bool) : Prop := ∀ (g' h' : AH), Sep c g' h' [] → R (.bool r) h'
theorem ahW {w0 : World} {g h : AH} {Q : CR → AH → Prop} {r : Bool} {x0 x1 : Int} {mn : Nat} (M : zc x0 x1 = some r) (sg : Sub g h) (ok : h.Ok) (nq : g.bE mn 0 [(vi x1)]) (H : ahV ⟨g, h, []⟩ (fun v => Q (.ret v)) r) : WF PP w0 Eg [(vi x0), (al mn 0)] h Q := by
 refine aar _ _ ?_
 have S := Sep.start sg ok
 unfold RE
 unfold zc at M
 refine S.gr (nq 0 _ rfl) ?_
 refine wg.2 ?_
 obtain ⟨fo, lN, M⟩ := bind_some M
 refine uj lN S.sub S.ok (fun _ h  S1  => ?_)
 have S := S.eo S1
 refine fy.2 ?_
 cases M
 exact H _ _  S.bJ
def Cr (v1 : aE) (x1 : Int) (ee : Bool)  : Option Bool :=
 bif ee then (
 some true) else (
(om v1.dM 0 (bf .i64 (x1 - 1))).bind fun bD =>
 some (!bD))
def Cs (v1 : aE) (x1 : Int) (v10 : Bool)  : Option Bool :=
 bif v10 then (
 Cr v1 x1 true) else (
 Cr v1 x1 (decide (x1 < v1.eK)))
def zd (x0 : aE) (x1 : Int) : Option Bool :=
 bif (decide (x0.dZ < 0)) then (
 Cs x0 x1 true) else (
 Cs x0 x1 (decide (x0.eK ≤ x0.dZ)))
abbrev Pd (c : Cx) (R : Value → W) (r : Bool) : Prop := ∀ (g' h' : AH), Sep c g' h' [] → R (.bool r) h'
theorem X6 {w0 : World} {c : Cx} {g h : AH} {E R : Value → W} {r : Bool} {v1 : aE} {x1 : Int} {ee : Bool} {ar mn : Nat}  (M : Cr v1 x1 ee = some r) (S : Sep c g h [.bx ar [(vi v1.dZ), (vi v1.eK), (vi v1.dM)]]) (nq : g.bE mn 0 [(vi x1)])  (H : Pd c R r) : Jh w0 E R (al ar 0) (al mn 0) (.bool ee) h := by
 unfold Jh
 unfold Cr at M
 cases hc : ee
 · have M := aX hc M
   refine aH rfl ?_
   refine cr.2 ?_
   refine aH rfl ?_
   refine S.bj 0 rfl rfl ?_
   refine aH rfl ?_
   refine S.gr (nq 0 _ rfl) ?_
   refine aH rfl ?_
   refine wg.2 ?_
   refine aH rfl ?_
   obtain ⟨bD, jE, M⟩ := bind_some M
   refine uj jE S.sub S.ok (fun _ h  S1  => ?_)
   have S := S.eo S1
   refine aH rfl ?_
   refine fy.2 ?_
   refine bB.2 ?_
   cases M
   exact H _ _  S.bJ
 · have M := aV hc M
   refine aI (by decide) ?_
   refine aI (by decide) ?_
   refine aI (by decide) ?_
   refine aI (by decide) ?_
   refine aI (by decide) ?_
   refine aI (by decide) ?_
   refine bB.2 ?_
   cases M
   exact H _ _  S.bJ
theorem X7 {w0 : World} {c : Cx} {g h : AH} {E R : Value → W} {r : Bool} {v1 : aE} {x1 : Int} {v10 : Bool} {ar mn : Nat}  (M : Cs v1 x1 v10 = some r) (S : Sep c g h [.bx ar [(vi v1.dZ), (vi v1.eK), (vi v1.dM)]]) (nq : g.bE mn 0 [(vi x1)])  (H : Pd c R r) : Ji w0 E R (al ar 0) (al mn 0) (.bool v10) h := by
 unfold Ji
 unfold Cs at M
 cases hc : v10
 · have M := aX hc M
   refine aH rfl ?_
   refine cr.2 ?_
   refine aH rfl ?_
   refine S.bj 0 rfl rfl ?_
   refine aH rfl ?_
   refine S.gr (nq 0 _ rfl) ?_
   refine aH rfl ?_
   refine oY.2 ?_
   refine bB.2 ?_
   exact X6 M S nq H
 · have M := aV hc M
   refine aI (by decide) ?_
   refine aI (by decide) ?_
   refine aI (by decide) ?_
   refine aI (by decide) ?_
   refine bB.2 ?_
   exact X6 M S nq H
theorem ahX {w0 : World} {g h : AH} {Q : CR → AH → Prop} {r : Bool} {x0 : aE} {x1 : Int} {mn : Nat} (M : zd x0 x1 = some r) (sg : Sub g h) (ok : h.Ok) (nq : g.bE mn 0 [(vi x1)]) (H : Pd ⟨g, h, []⟩ (fun v => Q (.ret v)) r) : WF PP w0 Eh [(.agg ⟨[(vi x0.dZ), (vi x0.eK), (vi x0.dM)]⟩), (al mn 0)] h Q := by
 refine aat _ _ ?_
 have S := Sep.start sg ok
 unfold RF
 unfold zd at M
 refine S.box [(vi x0.dZ), (vi x0.eK), (vi x0.dM)] rfl (ab rfl (ab rfl (ab rfl rfl))) (fun jF h S => ?_)
 refine cr.2 ?_
 refine S.bj 0 rfl rfl ?_
 refine jf.2 ?_
 cases hc : (decide (x0.dZ < 0))
 · have M := aX hc M
   refine aH rfl ?_
   refine cr.2 ?_
   refine aH rfl ?_
   refine S.bj 0 rfl rfl ?_
   refine aH rfl ?_
   refine cr.2 ?_
   refine aH rfl ?_
   refine S.bj 0 rfl rfl ?_
   refine aH rfl ?_
   refine qo.2 ?_
   refine bB.2 ?_
   exact X7 M S nq H
 · have M := aV hc M
   refine aI (by decide) ?_
   refine aI (by decide) ?_
   refine aI (by decide) ?_
   refine aI (by decide) ?_
   refine aI (by decide) ?_
   refine bB.2 ?_
   exact X7 M S nq H
def Pe (N : Nat) (cG : Int) (de : ag) (jh : Int → Option Bool) : Option Bool :=
 jh (bf .i64 (cG + 1))
def ze (N : Nat) (cG : Int) (eM : Bool) (de : ag) (jh : Int → Option Bool) : Option Bool :=
 bif eM then (
 some false) else (
 Pe N cG de jh)
def Pf (N : Nat) (ct : List aq) (cG : Int) (v5 : Int) (de : ag) (jh : Int → Option Bool) : Option Bool :=
(ix ct cG).bind fun dH =>
(Co dH.aJ).bind fun gj =>
 bif (!gj.2) then (
 ze N cG true de jh) else (
(wH N dH).bind fun uo =>
(Cq N uo (fun a0 => zc a0 v5)).bind fun sG =>
 ze N cG sG de jh)
def zf (N : Nat) (v1 : ag) (v5 : Int)  : Option Bool :=
(HO N v1.aB (fun a0 => zd a0 v5)).bind fun X8 =>
 some (!X8)
def Pg (N : Nat) (cw : Int) (ct : List aq) (v5 : Int) (v1 : ag) (cG : Int) (jh : Int → Option Bool) : Option Bool :=
 bif (decide (cG < cw)) then (
 Pf N ct cG v5 v1 jh) else (
 zf N v1 v5)
def Ct (N : Nat) (cw : Int) (ct : List aq) (v5 : Int) (v1 : ag)  : Nat → Int → Option Bool
 | 0, _ => none
 | n + 1, cG => Pg N cw ct v5 v1 cG  (fun av => Ct N cw ct v5 v1 n av)
def Cu (N : Nat) (v1 : ag) (v5 : Int)  : Option Bool :=
 Ct N (v1.aa.length : Int) v1.aa v5 v1 N 0
def Cv (N : Nat) (v1 : ag) (v5 : Int) (v53 : Bool)  : Option Bool :=
 bif v53 then (
 some false) else (
 Cu N v1 v5)
def Cw (N : Nat) (v1 : ag) (v5 : Int) (gl : Bool)  : Option Bool :=
 bif gl then (
 Cv N v1 v5 true) else (
(om v1.aL 0 200).bind fun eT =>
 Cv N v1 v5 (!eT))
def Cy (N : Nat) (v1 : ag) (v5 : Int) (dA : Bool)  : Option Bool :=
 bif dA then (
 Cw N v1 v5 true) else (
(om v1.aK 0 200).bind fun pg =>
 Cw N v1 v5 (!pg))
def sH (N : Nat) (x0 : ag) : Option Bool :=
(om (x0.aa.length : Int) 1 600).bind fun Ph =>
 bif (!Ph) then (
 Cy N x0 (x0.aa.length : Int) true) else (
 Cy N x0 (x0.aa.length : Int) (decide (40 < (x0.aB.length : Int))))
abbrev po (c : Cx) (R : Value → W) (r : Bool) : Prop := ∀ (g' h' : AH), Sep c g' h' [] → R (.bool r) h'
theorem ahY {w0 : World} {c : Cx} {g h : AH} {E R : Value → W} {r : Bool} {N : Nat} {cG : Int} {de : ag} {ur : Nat} {pq pt : Value} {js : Value → W} {jh : Int → Option Bool} {pv : AH} (M : Pe N cG de jh = some r) (S : Sep c g h [.bx ur [(.string de.aO), (.string de.aP), (vi de.fArgs), (vi de.aK), (vi de.aL), pq, pt]]) (wJ : ae aq.rep 4 g pq de.aa) (wK : ae aE.rep 3 g pt de.aB) (q7 : Sub pv g) (uu : ∀ {av : Int} {g2 h2 : AH}, jh av = some r → Sub pv g2 → Sep c g2 h2 [.bx ur [(.string de.aO), (.string de.aP), (vi de.fArgs), (vi de.aK), (vi de.aL), pq, pt]] → js (vi av) h2) (H : po c R r) : Jl w0 E R (vi cG) js h := by
 unfold Jl
 unfold Pe at M
 refine iw.2 ?_
 exact uu M q7 S
theorem X9 {w0 : World} {c : Cx} {g h : AH} {E R : Value → W} {r : Bool} {N : Nat} {cG : Int} {eM : Bool} {de : ag} {ur : Nat} {pq pt : Value} {js : Value → W} {jh : Int → Option Bool} {pv : AH} (M : ze N cG eM de jh = some r) (S : Sep c g h [.bx ur [(.string de.aO), (.string de.aP), (vi de.fArgs), (vi de.aK), (vi de.aL), pq, pt]]) (wJ : ae aq.rep 4 g pq de.aa) (wK : ae aE.rep 3 g pt de.aB) (q7 : Sub pv g) (uu : ∀ {av : Int} {g2 h2 : AH}, jh av = some r → Sub pv g2 → Sep c g2 h2 [.bx ur [(.string de.aO), (.string de.aP), (vi de.fArgs), (vi de.aK), (vi de.aL), pq, pt]] → js (vi av) h2) (H : po c R r) : Jm w0 E R (vi cG) js (.bool eM) h := by
 unfold Jm
 unfold ze at M
 refine bK (fun hc => ?_) (fun hc => ?_)
 · have M := aV hc M
   cases M
   exact H _ _  S.bJ
 · have M := aX hc M
   exact ahY M S wJ wK q7 uu H
theorem ahZ {w0 : World} {c : Cx} {g h : AH} {E R : Value → W} {r : Bool} {N : Nat} {ct : List aq} {cG v5 : Int} {de : ag} {uv : Value} {ch ur : Nat} {pq pt : Value} {js : Value → W} {jh : Int → Option Bool} {pv : AH} (M : Pf N ct cG v5 de jh = some r) (S : Sep c g h [.bx ur [(.string de.aO), (.string de.aP), (vi de.fArgs), (vi de.aK), (vi de.aL), pq, pt]]) (sI : ae aq.rep 4 g uv ct) (oo : g.bE ch 0 [(vi v5)]) (wJ : ae aq.rep 4 g pq de.aa) (wK : ae aE.rep 3 g pt de.aB) (q7 : Sub pv g) (uu : ∀ {av : Int} {g2 h2 : AH}, jh av = some r → Sub pv g2 → Sep c g2 h2 [.bx ur [(.string de.aO), (.string de.aP), (vi de.fArgs), (vi de.aK), (vi de.aL), pq, pt]] → js (vi av) h2) (H : po c R r) : Jn w0 E R uv (vi cG) (al ch 0) js h := by
 unfold Jn
 unfold Pf at M
 obtain ⟨dH, Cj, M⟩ := bind_some M
 refine ae.idx sI Cj (fun Pj ah0 vs Pk sJ rp => ?_)
 cases rp
 refine S.ua sJ rfl (by decide) ?_
 refine S.alloc (l := [(vi 0), (vi 0), (vi 0), (vi 0)]) (ab rfl (ab rfl (ab rfl (ab rfl rfl)))) (fun Pl h S => ?_)
 refine S.cv [(vi dH.aJ), (vi dH.fA), (vi dH.fB), (vi dH.fC)] [(vi dH.aJ), (vi dH.fA), (vi dH.fB), (vi dH.fC)] rfl rfl (ab rfl (ab rfl (ab rfl (ab rfl rfl)))) (Nat.le_of_ble_eq_true rfl) rfl (fun h S => ?_)
 refine cr.2 ?_
 refine S.bj 0 rfl rfl ?_
 obtain ⟨gj, ah1, M⟩ := bind_some M
 refine HM dH.aJ S.sub S.ok ah1 (fun _ h  S1  => ?_)
 have S := S.eo S1
 refine (gT rfl).2 ?_
 refine (gT rfl).2 ?_
 refine S.alloc (l := [(.string (⟨⟨[]⟩⟩ : ByteArray)), (vi 0), (vi 0), (vi 0), (vi 0), (vi 0), (vi 0), (.bool false), (.bool false)]) (ab rfl (ab rfl (ab rfl (ab rfl (ab rfl (ab rfl (ab rfl (ab rfl (ab rfl rfl))))))))) (fun amn h S => ?_)
 refine S.cv [(.string gj.1.um), (vi gj.1.fp.e0), (vi gj.1.fp.e1), (vi gj.1.fp.e2), (vi gj.1.sF), (vi gj.1.kB.e0), (vi gj.1.kB.e1), (.bool gj.1.ll), (.bool gj.1.kC)] [(.string gj.1.um), (vi gj.1.fp.e0), (vi gj.1.fp.e1), (vi gj.1.fp.e2), (vi gj.1.sF), (vi gj.1.kB.e0), (vi gj.1.kB.e1), (.bool gj.1.ll), (.bool gj.1.kC)] rfl rfl (ab rfl (ab rfl (ab rfl (ab rfl (ab rfl (ab rfl (ab rfl (ab rfl (ab rfl rfl))))))))) (Nat.le_of_ble_eq_true rfl) rfl (fun h S => ?_)
 refine fy.2 ?_
 cases hc : (!gj.2)
 · have M := aX hc M
   refine aH rfl ?_
   refine S.c8 [(vi dH.aJ), (vi dH.fA), (vi dH.fB), (vi dH.fC)] 1 rfl rfl rfl (by decide) ?_
   refine aH rfl ?_
   obtain ⟨uo, Pm, M⟩ := bind_some M
   refine X4 Pm S.sub S.ok (fun g h amo S1 ah2 => ?_)
   have sI := ae.mono sI aq.mono S1.bQ
   have oo := S1.bQ.bE oo
   have sJ := S1.bQ.bE sJ
   have wJ := ae.mono wJ aq.mono S1.bQ
   have wK := ae.mono wK aE.mono S1.bQ
   have q7 := Sub.trans q7 S1.bQ
   have S := S.ni S1
   refine aH rfl ?_
   refine (Gq (by simp)).2 ?_
   refine aH rfl ?_
   have ah3 : qW w0 g (.func (.func Eg) ⟨[]⟩ ⟨[(al ch 0)]⟩) (fun a0 => zc a0 v5) := ⟨rfl, fun a0 r E K g2 h2 s1 s2 s3  m1 k1 => ahW m1 s2 s3 (Sub.bE s1 oo) k1⟩
   obtain ⟨sG, Cz, M⟩ := bind_some M
   refine ahN Cz S.sub S.ok ah2 ah3 (fun _ h  S1  => ?_)
   have S := S.eo S1
   refine bB.2 ?_
   have S := S.f2
   have S := S.t1
   exact X9 M S wJ wK q7 uu H
 · have M := aV hc M
   refine aI (by decide) ?_
   refine aI (by decide) ?_
   refine aI (by decide) ?_
   refine aI (by decide) ?_
   refine bB.2 ?_
   have S := S.f2
   have S := S.t1
   exact X9 M S wJ wK q7 uu H
theorem ah4 {w0 : World} {c : Cx} {g h : AH} {E R : Value → W} {r : Bool} {N : Nat} {v1 : ag} {v5 : Int} {ar : Nat} {aw ax : Value} {ch : Nat}  (M : zf N v1 v5 = some r) (S : Sep c g h [.bx ar [(.string v1.aO), (.string v1.aP), (vi v1.fArgs), (vi v1.aK), (vi v1.aL), aw, ax]]) (aA : ae aq.rep 4 g aw v1.aa) (aG : ae aE.rep 3 g ax v1.aB) (oo : g.bE ch 0 [(vi v5)])  (H : po c R r) : Jk w0 E R (al ar 0) (al ch 0) h := by
 unfold Jk
 unfold zf at M
 refine cr.2 ?_
 refine S.bj 0 rfl rfl ?_
 refine (Gq (by simp)).2 ?_
 have ah5 : pe w0 g (.func (.func Eh) ⟨[]⟩ ⟨[(al ch 0)]⟩) (fun a0 => zd a0 v5) := ⟨rfl, fun a0 r E K g2 h2 s1 s2 s3  m1 k1 => ahX m1 s2 s3 (Sub.bE s1 oo) k1⟩
 obtain ⟨X8, ah6, M⟩ := bind_some M
 refine ahU ah6 S.sub S.ok aG ah5 (fun _ h  S1  => ?_)
 have S := S.eo S1
 refine fy.2 ?_
 cases M
 exact H _ _  S.bJ
theorem ah7 {w0 : World} {c : Cx} {g h : AH} {E R : Value → W} {r : Bool} {N : Nat} {cw : Int} {ct : List aq} {v5 : Int} {v1 : ag} {cG : Int} {uv : Value} {ch ar : Nat} {aw ax : Value} {js : Value → W} {jh : Int → Option Bool} {pv : AH} (M : Pg N cw ct v5 v1 cG jh = some r) (S : Sep c g h [.bx ar [(.string v1.aO), (.string v1.aP), (vi v1.fArgs), (vi v1.aK), (vi v1.aL), aw, ax]]) (sI : ae aq.rep 4 g uv ct) (oo : g.bE ch 0 [(vi v5)]) (aA : ae aq.rep 4 g aw v1.aa) (aG : ae aE.rep 3 g ax v1.aB) (q7 : Sub pv g) (uu : ∀ {av : Int} {g2 h2 : AH}, jh av = some r → Sub pv g2 → Sep c g2 h2 [.bx ar [(.string v1.aO), (.string v1.aP), (vi v1.fArgs), (vi v1.aK), (vi v1.aL), aw, ax]] → js (vi av) h2) (H : po c R r) : Ei w0 E R (vi cw) uv (al ch 0) (al ar 0) js (vi cG) h := by
 unfold Ei
 unfold Pg at M
 refine jf.2 ?_
 refine bK (fun hc => ?_) (fun hc => ?_)
 · have M := aV hc M
   exact ahZ M S sI oo aA aG q7 uu H
 · have M := aX hc M
   exact ah4 M S aA aG oo H
theorem ah8 {w0 : World} {c : Cx} {E R : Value → W} {r : Bool} {N : Nat} {cw : Int} {ct : List aq} {v5 : Int} {v1 : ag} {uv : Value} {ch ar : Nat} {aw ax : Value}   (H : po c R r) : ∀ (n : Nat) {cG : Int} {g h : AH}, Ct N cw ct v5 v1 n cG = some r → Sep c g h [.bx ar [(.string v1.aO), (.string v1.aP), (vi v1.fArgs), (vi v1.aK), (vi v1.aL), aw, ax]] → ae aq.rep 4 g uv ct → g.bE ch 0 [(vi v5)] → ae aq.rep 4 g aw v1.aa → ae aE.rep 3 g ax v1.aB → jX (α := Value) (fun k a => Ei w0 E R (vi cw) uv (al ch 0) (al ar 0) k a) n (vi cG) h := by
 intro n
 induction n with
 | zero =>
  intro cG  g h M S sI oo aA aG
  unfold Ct at M; cases M
 | succ n ih =>
  intro cG  g h M S sI oo aA aG
  exact ah7 M S sI oo aA aG  (Sub.refl g) (fun M2 sub S2  => ih M2 S2 (ae.mono sI aq.mono sub) (Sub.bE sub oo) (ae.mono aA aq.mono sub) (ae.mono aG aE.mono sub) ) H
theorem ah9 {w0 : World} {c : Cx} {g h : AH} {E R : Value → W} {r : Bool} {N : Nat} {v1 : ag} {v5 : Int} {ar : Nat} {aw ax : Value} {ch : Nat}  (M : Cu N v1 v5 = some r) (S : Sep c g h [.bx ar [(.string v1.aO), (.string v1.aP), (vi v1.fArgs), (vi v1.aK), (vi v1.aL), aw, ax], .bx ch [(vi v5)]]) (aA : ae aq.rep 4 g aw v1.aa) (aG : ae aE.rep 3 g ax v1.aB)  (H : po c R r) : Jo w0 E R (al ar 0) (al ch 0) h := by
 unfold Jo
 unfold Cu at M
 refine cr.2 ?_
 refine S.bj 0 rfl rfl ?_
 refine aA.len ?_
 have S := S.f1
 obtain ⟨g, sg, S, r_9⟩ := S.yR
 have aA := ae.mono aA aq.mono sg
 have aG := ae.mono aG aE.mono sg
 exact ⟨N, ah8  H _ M S aA r_9 aA aG ⟩
theorem Ya {w0 : World} {c : Cx} {g h : AH} {E R : Value → W} {r : Bool} {N : Nat} {v1 : ag} {v5 : Int} {v53 : Bool} {ar : Nat} {aw ax : Value} {ch : Nat}  (M : Cv N v1 v5 v53 = some r) (S : Sep c g h [.bx ar [(.string v1.aO), (.string v1.aP), (vi v1.fArgs), (vi v1.aK), (vi v1.aL), aw, ax], .bx ch [(vi v5)]]) (aA : ae aq.rep 4 g aw v1.aa) (aG : ae aE.rep 3 g ax v1.aB)  (H : po c R r) : Jp w0 E R (al ar 0) (al ch 0) (.bool v53) h := by
 unfold Jp
 unfold Cv at M
 refine bK (fun hc => ?_) (fun hc => ?_)
 · have M := aV hc M
   cases M
   exact H _ _  S.bJ
 · have M := aX hc M
   exact ah9 M S aA aG H
theorem Yb {w0 : World} {c : Cx} {g h : AH} {E R : Value → W} {r : Bool} {N : Nat} {v1 : ag} {v5 : Int} {gl : Bool} {ar : Nat} {aw ax : Value} {ch : Nat}  (M : Cw N v1 v5 gl = some r) (S : Sep c g h [.bx ar [(.string v1.aO), (.string v1.aP), (vi v1.fArgs), (vi v1.aK), (vi v1.aL), aw, ax], .bx ch [(vi v5)]]) (aA : ae aq.rep 4 g aw v1.aa) (aG : ae aE.rep 3 g ax v1.aB)  (H : po c R r) : Jq w0 E R (al ar 0) (al ch 0) (.bool gl) h := by
 unfold Jq
 unfold Cw at M
 cases hc : gl
 · have M := aX hc M
   refine aH rfl ?_
   refine cr.2 ?_
   refine aH rfl ?_
   refine S.bj 0 rfl rfl ?_
   refine aH rfl ?_
   obtain ⟨eT, pk, M⟩ := bind_some M
   refine uj pk S.sub S.ok (fun _ h  S1  => ?_)
   have S := S.eo S1
   refine aH rfl ?_
   refine fy.2 ?_
   refine bB.2 ?_
   exact Ya M S aA aG H
 · have M := aV hc M
   refine aI (by decide) ?_
   refine aI (by decide) ?_
   refine aI (by decide) ?_
   refine aI (by decide) ?_
   refine bB.2 ?_
   exact Ya M S aA aG H
theorem Yc {w0 : World} {c : Cx} {g h : AH} {E R : Value → W} {r : Bool} {N : Nat} {v1 : ag} {v5 : Int} {dA : Bool} {ar : Nat} {aw ax : Value} {ch : Nat}  (M : Cy N v1 v5 dA = some r) (S : Sep c g h [.bx ar [(.string v1.aO), (.string v1.aP), (vi v1.fArgs), (vi v1.aK), (vi v1.aL), aw, ax], .bx ch [(vi v5)]]) (aA : ae aq.rep 4 g aw v1.aa) (aG : ae aE.rep 3 g ax v1.aB)  (H : po c R r) : Jr w0 E R (al ar 0) (al ch 0) (.bool dA) h := by
 unfold Jr
 unfold Cy at M
 cases hc : dA
 · have M := aX hc M
   refine aH rfl ?_
   refine cr.2 ?_
   refine aH rfl ?_
   refine S.bj 0 rfl rfl ?_
   refine aH rfl ?_
   obtain ⟨pg, wI, M⟩ := bind_some M
   refine uj wI S.sub S.ok (fun _ h  S1  => ?_)
   have S := S.eo S1
   refine aH rfl ?_
   refine fy.2 ?_
   refine bB.2 ?_
   exact Yb M S aA aG H
 · have M := aV hc M
   refine aI (by decide) ?_
   refine aI (by decide) ?_
   refine aI (by decide) ?_
   refine aI (by decide) ?_
   refine bB.2 ?_
   exact Yb M S aA aG H
theorem CA {w0 : World} {g h : AH} {Q : CR → AH → Prop} {r : Bool} {N : Nat} {x0 : ag} {cx cy : Value} (M : sH N x0 = some r) (sg : Sub g h) (ok : h.Ok) (cu : ae aq.rep 4 g cx x0.aa) (cD : ae aE.rep 3 g cy x0.aB) (H : po ⟨g, h, []⟩ (fun v => Q (.ret v)) r) : WF PP w0 vf [(.agg ⟨[(.string x0.aO), (.string x0.aP), (vi x0.fArgs), (vi x0.aK), (vi x0.aL), cx, cy]⟩)] h Q := by
 refine aax _ ?_
 have S := Sep.start sg ok
 unfold RH
 unfold sH at M
 refine S.box [(.string x0.aO), (.string x0.aP), (vi x0.fArgs), (vi x0.aK), (vi x0.aL), cx, cy] rfl (ab rfl (ab rfl (ab rfl (ab rfl (ab rfl (ab cu.one (ab cD.one rfl))))))) (fun jF h S => ?_)
 refine cr.2 ?_
 refine S.bj 0 rfl rfl ?_
 refine cu.len ?_
 refine S.alloc (l := [(vi 0)]) (ab rfl rfl) (fun wG h S => ?_)
 refine S.cv [(vi (x0.aa.length : Int))] [(vi (x0.aa.length : Int))] rfl rfl (ab rfl rfl) (Nat.le_of_ble_eq_true rfl) rfl (fun h S => ?_)
 refine S.bj 0 rfl rfl ?_
 obtain ⟨Ph, aia, M⟩ := bind_some M
 refine uj aia S.sub S.ok (fun _ h  S1  => ?_)
 have S := S.eo S1
 refine fy.2 ?_
 cases hc : (!Ph)
 · have M := aX hc M
   refine aH rfl ?_
   refine cr.2 ?_
   refine aH rfl ?_
   refine S.bj 1 rfl rfl ?_
   refine aH rfl ?_
   refine cD.len ?_
   refine aH rfl ?_
   refine oY.2 ?_
   refine bB.2 ?_
   have S := S.f1
   exact Yc M S cu cD H
 · have M := aV hc M
   refine aI (by decide) ?_
   refine aI (by decide) ?_
   refine aI (by decide) ?_
   refine aI (by decide) ?_
   refine bB.2 ?_
   have S := S.f1
   exact Yc M S cu cD H
def sK (x0 : Int) (x1 : Int) (x2 : Int) : Option Bool :=
 bif (decide (x1 ≤ x0)) then (
 some (decide (x0 ≤ x2))) else (
 some false)
def HP (v1 : cR)  : Option (cR × Bool) :=
 some ((cR.mk (dW.mk 0 0 0) 0 (fH.mk 0 0) false), false)
def zg (v1 : cR) (x0 : Int) (xc : Bool)  : Option (cR × Bool) :=
 bif xc then (
 some ((cR.mk (dW.mk 1 1 1) 1 (fH.mk 2 3) false), true)) else (
 bif (decide (x0 = 17)) then (
 some ((cR.mk (dW.mk 1 2 5) 1 (fH.mk 2 0) true), true)) else (
 bif (decide (x0 = 18)) then (
 some ((cR.mk (dW.mk 5 1 0) 0 (fH.mk 2 0) false), true)) else (
 bif (decide (x0 = 19)) then (
 some ((cR.mk (dW.mk 6 1 0) 0 (fH.mk 2 0) false), true)) else (
 bif (decide (x0 = 20)) then (
 some ((cR.mk (dW.mk 7 2 8) 1 (fH.mk 2 0) true), true)) else (
 bif (decide (x0 = 21)) then (
 some ((cR.mk (dW.mk 1 9 4) 1 (fH.mk 0 0) true), true)) else (
 bif (decide (x0 = 22)) then (
 some ((cR.mk (dW.mk 1 10 0) 0 (fH.mk 1 0) true), true)) else (
 bif (decide (x0 = 23)) then (
 some ((cR.mk (dW.mk 2 0 0) 0 (fH.mk 1 0) true), true)) else (
 bif (decide (x0 = 24)) then (
 some ((cR.mk (dW.mk 11 0 0) 0 (fH.mk 0 0) false), true)) else (
 bif (decide (x0 = 25)) then (
 some ((cR.mk (dW.mk 1 11 0) 0 (fH.mk 1 0) false), true)) else (
 bif (decide (x0 = 26)) then (
 some ((cR.mk (dW.mk 12 0 0) 0 (fH.mk 0 0) true), true)) else (
 bif (decide (x0 = 27)) then (
 some ((cR.mk (dW.mk 0 0 0) 0 (fH.mk 0 0) true), true)) else (
 bif (decide (x0 = 28)) then (
 some ((cR.mk (dW.mk 2 0 0) 0 (fH.mk 1 0) false), true)) else (
 bif (decide (x0 = 29)) then (
 some ((cR.mk (dW.mk 1 0 0) 0 (fH.mk 1 0) false), true)) else (
 bif (decide (x0 = 30)) then (
 some ((cR.mk (dW.mk 1 0 0) 0 (fH.mk 1 0) true), true)) else (
 bif (decide (x0 = 31)) then (
 some ((cR.mk (dW.mk 0 0 0) 0 (fH.mk 0 0) false), true)) else (
 bif (decide (x0 = 32)) then (
 some ((cR.mk (dW.mk 1 11 0) 0 (fH.mk 1 0) true), true)) else (
 bif (decide (x0 = 33)) then (
 some ((cR.mk (dW.mk 1 13 0) 1 (fH.mk 0 0) false), true)) else (
 bif (decide (x0 = 34)) then (
 some ((cR.mk (dW.mk 13 1 0) 0 (fH.mk 2 0) false), true)) else (
 HP v1)))))))))))))))))))
def uw (v1 : cR) (x0 : Int) (xd : Bool)  : Option (cR × Bool) :=
 bif xd then (
 some ((cR.mk (dW.mk 1 1 1) 1 (fH.mk 2 3) true), true)) else (
 bif (decide (x0 = 12)) then (
 zg v1 x0 (decide (x0 = 12))) else (
 bif (decide (x0 = 13)) then (
 zg v1 x0 (decide (x0 = 13))) else (
 zg v1 x0 (decide (x0 = 14)))))
def wL (v1 : cR) (x0 : Int) (xf : Bool)  : Option (cR × Bool) :=
 bif xf then (
 some ((cR.mk (dW.mk 1 1 0) 1 (fH.mk 2 0) false), true)) else (
 bif (decide (x0 = 6)) then (
 uw v1 x0 (decide (x0 = 6))) else (
 bif (decide (x0 = 7)) then (
 uw v1 x0 (decide (x0 = 7))) else (
 bif (decide (x0 = 8)) then (
 uw v1 x0 (decide (x0 = 8))) else (
 bif (decide (x0 = 9)) then (
 uw v1 x0 (decide (x0 = 9))) else (
 uw v1 x0 (decide (x0 = 10)))))))
def CB (v1 : cR) (x0 : Int) (mH : Bool)  : Option (cR × Bool) :=
 bif mH then (
 some ((cR.mk (dW.mk 1 0 0) 1 (fH.mk 0 0) false), true)) else (
 bif (decide (x0 = 4)) then (
 wL v1 x0 (decide (x0 = 4))) else (
 bif (decide (x0 = 11)) then (
 wL v1 x0 (decide (x0 = 11))) else (
 bif (decide (x0 = 15)) then (
 wL v1 x0 (decide (x0 = 15))) else (
 wL v1 x0 (decide (x0 = 16))))))
def zh (x0 : Int) : Option (cR × Bool) :=
 bif (decide (x0 = 1)) then (
 some ((cR.mk (dW.mk 1 3 0) 1 (fH.mk 0 0) false), true)) else (
 bif (decide (x0 = 2)) then (
 some ((cR.mk (dW.mk 1 4 0) 1 (fH.mk 0 0) false), true)) else (
 bif (decide (x0 = 3)) then (
 CB (cR.mk (dW.mk 0 0 0) 0 (fH.mk 0 0) false) x0 (decide (x0 = 3))) else (
 CB (cR.mk (dW.mk 0 0 0) 0 (fH.mk 0 0) false) x0 (decide (x0 = 5)))))
abbrev zi (c : Cx) (R : Value → W) (r : cR × Bool) : Prop := ∀ (g' h' : AH), Sep c g' h' [] → R (.tuple ⟨[(.agg ⟨[(vi r.1.gY.e0), (vi r.1.gY.e1), (vi r.1.gY.e2), (vi r.1.ux), (vi r.1.ln.e0), (vi r.1.ln.e1), (.bool r.1.q8)]⟩), (.bool r.2)]⟩) h'
theorem aib {w0 : World} {c : Cx} {g h : AH} {E R : Value → W} {r : cR × Bool} {v1 : cR} {ar : Nat}  (M : HP v1 = some r) (S : Sep c g h [.bx ar [(vi v1.gY.e0), (vi v1.gY.e1), (vi v1.gY.e2), (vi v1.ux), (vi v1.ln.e0), (vi v1.ln.e1), (.bool v1.q8)]])   (H : zi c R r) : JF w0 E R (al ar 0) h := by
 unfold JF
 unfold HP at M
 refine (gE (l := [(vi 0), (vi 0), (vi 0), (vi 0), (vi 0), (vi 0), (.bool false)]) rfl).2 ?_
 refine S.cv [(vi 0), (vi 0), (vi 0), (vi 0), (vi 0), (vi 0), (.bool false)] [(vi 0), (vi 0), (vi 0), (vi 0), (vi 0), (vi 0), (.bool false)] rfl rfl (ab rfl (ab rfl (ab rfl (ab rfl (ab rfl (ab rfl (ab rfl rfl))))))) (Nat.le_of_ble_eq_true rfl) rfl (fun h S => ?_)
 refine S.c8 [(vi 0), (vi 0), (vi 0), (vi 0), (vi 0), (vi 0), (.bool false)] 0 rfl rfl rfl (by decide) ?_
 cases M
 exact H _ _  S.bJ
theorem Pn {w0 : World} {c : Cx} {g h : AH} {E R : Value → W} {r : cR × Bool} {v1 : cR} {x0 : Int} {xc : Bool} {ar : Nat}  (M : zg v1 x0 xc = some r) (S : Sep c g h [.bx ar [(vi v1.gY.e0), (vi v1.gY.e1), (vi v1.gY.e2), (vi v1.ux), (vi v1.ln.e0), (vi v1.ln.e1), (.bool v1.q8)]])   (H : zi c R r) : zT w0 E R (al ar 0) (vi x0) (.bool xc) h := by
 unfold zT
 unfold zg at M
 refine bK (fun hc => ?_) (fun hc => ?_)
 · have M := aV hc M
   refine dD [(vi 1), (vi 1), (vi 1)] (by simp only [cQ, bo, bp, bt, bw,  List.length_cons, List.length_nil, Nat.reduceAdd, Nat.zero_add, decide_true, Bool.and_self]) (by simp only [List.flatMap_cons, List.flatMap_nil, bo, bp, bt, bw,  List.cons_append, List.nil_append, List.append_nil]) ?_
   refine dD [(vi 2), (vi 3)] (by simp only [cQ, bo, bp, bt, bw,  List.length_cons, List.length_nil, Nat.reduceAdd, Nat.zero_add, decide_true, Bool.and_self]) (by simp only [List.flatMap_cons, List.flatMap_nil, bo, bp, bt, bw,  List.cons_append, List.nil_append, List.append_nil]) ?_
   refine (gE (l := [(vi 1), (vi 1), (vi 1), (vi 1), (vi 2), (vi 3), (.bool false)]) (cJ (m := [(vi 1), (vi 1), (vi 1)]) (l2 := [(vi 1), (vi 1), (vi 1), (vi 0), (vi 0), (vi 0), (.bool false)]) rfl rfl (Nat.le_of_ble_eq_true rfl) rfl (cJ (m := [(vi 1)]) (l2 := [(vi 1), (vi 1), (vi 1), (vi 1), (vi 0), (vi 0), (.bool false)]) rfl rfl (Nat.le_of_ble_eq_true rfl) rfl (cJ (m := [(vi 2), (vi 3)]) (l2 := [(vi 1), (vi 1), (vi 1), (vi 1), (vi 2), (vi 3), (.bool false)]) rfl rfl (Nat.le_of_ble_eq_true rfl) rfl rfl)))).2 ?_
   refine S.cv [(vi 1), (vi 1), (vi 1), (vi 1), (vi 2), (vi 3), (.bool false)] [(vi 1), (vi 1), (vi 1), (vi 1), (vi 2), (vi 3), (.bool false)] rfl rfl (ab rfl (ab rfl (ab rfl (ab rfl (ab rfl (ab rfl (ab rfl rfl))))))) (Nat.le_of_ble_eq_true rfl) rfl (fun h S => ?_)
   refine S.c8 [(vi 1), (vi 1), (vi 1), (vi 1), (vi 2), (vi 3), (.bool false)] 0 rfl rfl rfl (by decide) ?_
   cases M
   exact H _ _  S.bJ
 · have M := aX hc M
   refine cg.2 ?_
   refine bK (fun hc => ?_) (fun hc => ?_)
   · have M := aV hc M
     refine dD [(vi 1), (vi 2), (vi 5)] (by simp only [cQ, bo, bp, bt, bw,  List.length_cons, List.length_nil, Nat.reduceAdd, Nat.zero_add, decide_true, Bool.and_self]) (by simp only [List.flatMap_cons, List.flatMap_nil, bo, bp, bt, bw,  List.cons_append, List.nil_append, List.append_nil]) ?_
     refine dD [(vi 2), (vi 0)] (by simp only [cQ, bo, bp, bt, bw,  List.length_cons, List.length_nil, Nat.reduceAdd, Nat.zero_add, decide_true, Bool.and_self]) (by simp only [List.flatMap_cons, List.flatMap_nil, bo, bp, bt, bw,  List.cons_append, List.nil_append, List.append_nil]) ?_
     refine dD [(vi 1), (vi 2), (vi 5), (vi 1), (vi 2), (vi 0), (.bool true)] (by simp only [cQ, bo, bp, bt, bw,  List.length_cons, List.length_nil, Nat.reduceAdd, Nat.zero_add, decide_true, Bool.and_self]) (by simp only [List.flatMap_cons, List.flatMap_nil, bo, bp, bt, bw,  List.cons_append, List.nil_append, List.append_nil]) ?_
     refine S.cv [(vi 1), (vi 2), (vi 5), (vi 1), (vi 2), (vi 0), (.bool true)] [(vi 1), (vi 2), (vi 5), (vi 1), (vi 2), (vi 0), (.bool true)] rfl rfl (ab rfl (ab rfl (ab rfl (ab rfl (ab rfl (ab rfl (ab rfl rfl))))))) (Nat.le_of_ble_eq_true rfl) rfl (fun h S => ?_)
     refine S.c8 [(vi 1), (vi 2), (vi 5), (vi 1), (vi 2), (vi 0), (.bool true)] 0 rfl rfl rfl (by decide) ?_
     cases M
     exact H _ _  S.bJ
   · have M := aX hc M
     refine cg.2 ?_
     refine bK (fun hc => ?_) (fun hc => ?_)
     · have M := aV hc M
       refine dD [(vi 5), (vi 1), (vi 0)] (by simp only [cQ, bo, bp, bt, bw,  List.length_cons, List.length_nil, Nat.reduceAdd, Nat.zero_add, decide_true, Bool.and_self]) (by simp only [List.flatMap_cons, List.flatMap_nil, bo, bp, bt, bw,  List.cons_append, List.nil_append, List.append_nil]) ?_
       refine dD [(vi 2), (vi 0)] (by simp only [cQ, bo, bp, bt, bw,  List.length_cons, List.length_nil, Nat.reduceAdd, Nat.zero_add, decide_true, Bool.and_self]) (by simp only [List.flatMap_cons, List.flatMap_nil, bo, bp, bt, bw,  List.cons_append, List.nil_append, List.append_nil]) ?_
       refine (gE (l := [(vi 5), (vi 1), (vi 0), (vi 0), (vi 2), (vi 0), (.bool false)]) (cJ (m := [(vi 5), (vi 1), (vi 0)]) (l2 := [(vi 5), (vi 1), (vi 0), (vi 0), (vi 0), (vi 0), (.bool false)]) rfl rfl (Nat.le_of_ble_eq_true rfl) rfl (cJ (m := [(vi 2), (vi 0)]) (l2 := [(vi 5), (vi 1), (vi 0), (vi 0), (vi 2), (vi 0), (.bool false)]) rfl rfl (Nat.le_of_ble_eq_true rfl) rfl rfl))).2 ?_
       refine S.cv [(vi 5), (vi 1), (vi 0), (vi 0), (vi 2), (vi 0), (.bool false)] [(vi 5), (vi 1), (vi 0), (vi 0), (vi 2), (vi 0), (.bool false)] rfl rfl (ab rfl (ab rfl (ab rfl (ab rfl (ab rfl (ab rfl (ab rfl rfl))))))) (Nat.le_of_ble_eq_true rfl) rfl (fun h S => ?_)
       refine S.c8 [(vi 5), (vi 1), (vi 0), (vi 0), (vi 2), (vi 0), (.bool false)] 0 rfl rfl rfl (by decide) ?_
       cases M
       exact H _ _  S.bJ
     · have M := aX hc M
       refine cg.2 ?_
       refine bK (fun hc => ?_) (fun hc => ?_)
       · have M := aV hc M
         refine dD [(vi 6), (vi 1), (vi 0)] (by simp only [cQ, bo, bp, bt, bw,  List.length_cons, List.length_nil, Nat.reduceAdd, Nat.zero_add, decide_true, Bool.and_self]) (by simp only [List.flatMap_cons, List.flatMap_nil, bo, bp, bt, bw,  List.cons_append, List.nil_append, List.append_nil]) ?_
         refine dD [(vi 2), (vi 0)] (by simp only [cQ, bo, bp, bt, bw,  List.length_cons, List.length_nil, Nat.reduceAdd, Nat.zero_add, decide_true, Bool.and_self]) (by simp only [List.flatMap_cons, List.flatMap_nil, bo, bp, bt, bw,  List.cons_append, List.nil_append, List.append_nil]) ?_
         refine (gE (l := [(vi 6), (vi 1), (vi 0), (vi 0), (vi 2), (vi 0), (.bool false)]) (cJ (m := [(vi 6), (vi 1), (vi 0)]) (l2 := [(vi 6), (vi 1), (vi 0), (vi 0), (vi 0), (vi 0), (.bool false)]) rfl rfl (Nat.le_of_ble_eq_true rfl) rfl (cJ (m := [(vi 2), (vi 0)]) (l2 := [(vi 6), (vi 1), (vi 0), (vi 0), (vi 2), (vi 0), (.bool false)]) rfl rfl (Nat.le_of_ble_eq_true rfl) rfl rfl))).2 ?_
         refine S.cv [(vi 6), (vi 1), (vi 0), (vi 0), (vi 2), (vi 0), (.bool false)] [(vi 6), (vi 1), (vi 0), (vi 0), (vi 2), (vi 0), (.bool false)] rfl rfl (ab rfl (ab rfl (ab rfl (ab rfl (ab rfl (ab rfl (ab rfl rfl))))))) (Nat.le_of_ble_eq_true rfl) rfl (fun h S => ?_)
         refine S.c8 [(vi 6), (vi 1), (vi 0), (vi 0), (vi 2), (vi 0), (.bool false)] 0 rfl rfl rfl (by decide) ?_
         cases M
         exact H _ _  S.bJ
       · have M := aX hc M
         refine cg.2 ?_
         refine bK (fun hc => ?_) (fun hc => ?_)
         · have M := aV hc M
           refine dD [(vi 7), (vi 2), (vi 8)] (by simp only [cQ, bo, bp, bt, bw,  List.length_cons, List.length_nil, Nat.reduceAdd, Nat.zero_add, decide_true, Bool.and_self]) (by simp only [List.flatMap_cons, List.flatMap_nil, bo, bp, bt, bw,  List.cons_append, List.nil_append, List.append_nil]) ?_
           refine dD [(vi 2), (vi 0)] (by simp only [cQ, bo, bp, bt, bw,  List.length_cons, List.length_nil, Nat.reduceAdd, Nat.zero_add, decide_true, Bool.and_self]) (by simp only [List.flatMap_cons, List.flatMap_nil, bo, bp, bt, bw,  List.cons_append, List.nil_append, List.append_nil]) ?_
           refine dD [(vi 7), (vi 2), (vi 8), (vi 1), (vi 2), (vi 0), (.bool true)] (by simp only [cQ, bo, bp, bt, bw,  List.length_cons, List.length_nil, Nat.reduceAdd, Nat.zero_add, decide_true, Bool.and_self]) (by simp only [List.flatMap_cons, List.flatMap_nil, bo, bp, bt, bw,  List.cons_append, List.nil_append, List.append_nil]) ?_
           refine S.cv [(vi 7), (vi 2), (vi 8), (vi 1), (vi 2), (vi 0), (.bool true)] [(vi 7), (vi 2), (vi 8), (vi 1), (vi 2), (vi 0), (.bool true)] rfl rfl (ab rfl (ab rfl (ab rfl (ab rfl (ab rfl (ab rfl (ab rfl rfl))))))) (Nat.le_of_ble_eq_true rfl) rfl (fun h S => ?_)
           refine S.c8 [(vi 7), (vi 2), (vi 8), (vi 1), (vi 2), (vi 0), (.bool true)] 0 rfl rfl rfl (by decide) ?_
           cases M
           exact H _ _  S.bJ
         · have M := aX hc M
           refine cg.2 ?_
           refine bK (fun hc => ?_) (fun hc => ?_)
           · have M := aV hc M
             refine dD [(vi 1), (vi 9), (vi 4)] (by simp only [cQ, bo, bp, bt, bw,  List.length_cons, List.length_nil, Nat.reduceAdd, Nat.zero_add, decide_true, Bool.and_self]) (by simp only [List.flatMap_cons, List.flatMap_nil, bo, bp, bt, bw,  List.cons_append, List.nil_append, List.append_nil]) ?_
             refine (gE (l := [(vi 1), (vi 9), (vi 4), (vi 1), (vi 0), (vi 0), (.bool true)]) (cJ (m := [(vi 1), (vi 9), (vi 4)]) (l2 := [(vi 1), (vi 9), (vi 4), (vi 0), (vi 0), (vi 0), (.bool false)]) rfl rfl (Nat.le_of_ble_eq_true rfl) rfl (cJ (m := [(vi 1)]) (l2 := [(vi 1), (vi 9), (vi 4), (vi 1), (vi 0), (vi 0), (.bool false)]) rfl rfl (Nat.le_of_ble_eq_true rfl) rfl (cJ (m := [(.bool true)]) (l2 := [(vi 1), (vi 9), (vi 4), (vi 1), (vi 0), (vi 0), (.bool true)]) rfl rfl (Nat.le_of_ble_eq_true rfl) rfl rfl)))).2 ?_
             refine S.cv [(vi 1), (vi 9), (vi 4), (vi 1), (vi 0), (vi 0), (.bool true)] [(vi 1), (vi 9), (vi 4), (vi 1), (vi 0), (vi 0), (.bool true)] rfl rfl (ab rfl (ab rfl (ab rfl (ab rfl (ab rfl (ab rfl (ab rfl rfl))))))) (Nat.le_of_ble_eq_true rfl) rfl (fun h S => ?_)
             refine S.c8 [(vi 1), (vi 9), (vi 4), (vi 1), (vi 0), (vi 0), (.bool true)] 0 rfl rfl rfl (by decide) ?_
             cases M
             exact H _ _  S.bJ
           · have M := aX hc M
             refine cg.2 ?_
             refine bK (fun hc => ?_) (fun hc => ?_)
             · have M := aV hc M
               refine dD [(vi 1), (vi 10), (vi 0)] (by simp only [cQ, bo, bp, bt, bw,  List.length_cons, List.length_nil, Nat.reduceAdd, Nat.zero_add, decide_true, Bool.and_self]) (by simp only [List.flatMap_cons, List.flatMap_nil, bo, bp, bt, bw,  List.cons_append, List.nil_append, List.append_nil]) ?_
               refine dD [(vi 1), (vi 0)] (by simp only [cQ, bo, bp, bt, bw,  List.length_cons, List.length_nil, Nat.reduceAdd, Nat.zero_add, decide_true, Bool.and_self]) (by simp only [List.flatMap_cons, List.flatMap_nil, bo, bp, bt, bw,  List.cons_append, List.nil_append, List.append_nil]) ?_
               refine (gE (l := [(vi 1), (vi 10), (vi 0), (vi 0), (vi 1), (vi 0), (.bool true)]) (cJ (m := [(vi 1), (vi 10), (vi 0)]) (l2 := [(vi 1), (vi 10), (vi 0), (vi 0), (vi 0), (vi 0), (.bool false)]) rfl rfl (Nat.le_of_ble_eq_true rfl) rfl (cJ (m := [(vi 1), (vi 0)]) (l2 := [(vi 1), (vi 10), (vi 0), (vi 0), (vi 1), (vi 0), (.bool false)]) rfl rfl (Nat.le_of_ble_eq_true rfl) rfl (cJ (m := [(.bool true)]) (l2 := [(vi 1), (vi 10), (vi 0), (vi 0), (vi 1), (vi 0), (.bool true)]) rfl rfl (Nat.le_of_ble_eq_true rfl) rfl rfl)))).2 ?_
               refine S.cv [(vi 1), (vi 10), (vi 0), (vi 0), (vi 1), (vi 0), (.bool true)] [(vi 1), (vi 10), (vi 0), (vi 0), (vi 1), (vi 0), (.bool true)] rfl rfl (ab rfl (ab rfl (ab rfl (ab rfl (ab rfl (ab rfl (ab rfl rfl))))))) (Nat.le_of_ble_eq_true rfl) rfl (fun h S => ?_)
               refine S.c8 [(vi 1), (vi 10), (vi 0), (vi 0), (vi 1), (vi 0), (.bool true)] 0 rfl rfl rfl (by decide) ?_
               cases M
               exact H _ _  S.bJ
             · have M := aX hc M
               refine cg.2 ?_
               refine bK (fun hc => ?_) (fun hc => ?_)
               · have M := aV hc M
                 refine dD [(vi 2), (vi 0), (vi 0)] (by simp only [cQ, bo, bp, bt, bw,  List.length_cons, List.length_nil, Nat.reduceAdd, Nat.zero_add, decide_true, Bool.and_self]) (by simp only [List.flatMap_cons, List.flatMap_nil, bo, bp, bt, bw,  List.cons_append, List.nil_append, List.append_nil]) ?_
                 refine dD [(vi 1), (vi 0)] (by simp only [cQ, bo, bp, bt, bw,  List.length_cons, List.length_nil, Nat.reduceAdd, Nat.zero_add, decide_true, Bool.and_self]) (by simp only [List.flatMap_cons, List.flatMap_nil, bo, bp, bt, bw,  List.cons_append, List.nil_append, List.append_nil]) ?_
                 refine (gE (l := [(vi 2), (vi 0), (vi 0), (vi 0), (vi 1), (vi 0), (.bool true)]) (cJ (m := [(vi 2), (vi 0), (vi 0)]) (l2 := [(vi 2), (vi 0), (vi 0), (vi 0), (vi 0), (vi 0), (.bool false)]) rfl rfl (Nat.le_of_ble_eq_true rfl) rfl (cJ (m := [(vi 1), (vi 0)]) (l2 := [(vi 2), (vi 0), (vi 0), (vi 0), (vi 1), (vi 0), (.bool false)]) rfl rfl (Nat.le_of_ble_eq_true rfl) rfl (cJ (m := [(.bool true)]) (l2 := [(vi 2), (vi 0), (vi 0), (vi 0), (vi 1), (vi 0), (.bool true)]) rfl rfl (Nat.le_of_ble_eq_true rfl) rfl rfl)))).2 ?_
                 refine S.cv [(vi 2), (vi 0), (vi 0), (vi 0), (vi 1), (vi 0), (.bool true)] [(vi 2), (vi 0), (vi 0), (vi 0), (vi 1), (vi 0), (.bool true)] rfl rfl (ab rfl (ab rfl (ab rfl (ab rfl (ab rfl (ab rfl (ab rfl rfl))))))) (Nat.le_of_ble_eq_true rfl) rfl (fun h S => ?_)
                 refine S.c8 [(vi 2), (vi 0), (vi 0), (vi 0), (vi 1), (vi 0), (.bool true)] 0 rfl rfl rfl (by decide) ?_
                 cases M
                 exact H _ _  S.bJ
               · have M := aX hc M
                 refine cg.2 ?_
                 refine bK (fun hc => ?_) (fun hc => ?_)
                 · have M := aV hc M
                   refine dD [(vi 11), (vi 0), (vi 0)] (by simp only [cQ, bo, bp, bt, bw,  List.length_cons, List.length_nil, Nat.reduceAdd, Nat.zero_add, decide_true, Bool.and_self]) (by simp only [List.flatMap_cons, List.flatMap_nil, bo, bp, bt, bw,  List.cons_append, List.nil_append, List.append_nil]) ?_
                   refine (gE (l := [(vi 11), (vi 0), (vi 0), (vi 0), (vi 0), (vi 0), (.bool false)]) (cJ (m := [(vi 11), (vi 0), (vi 0)]) (l2 := [(vi 11), (vi 0), (vi 0), (vi 0), (vi 0), (vi 0), (.bool false)]) rfl rfl (Nat.le_of_ble_eq_true rfl) rfl rfl)).2 ?_
                   refine S.cv [(vi 11), (vi 0), (vi 0), (vi 0), (vi 0), (vi 0), (.bool false)] [(vi 11), (vi 0), (vi 0), (vi 0), (vi 0), (vi 0), (.bool false)] rfl rfl (ab rfl (ab rfl (ab rfl (ab rfl (ab rfl (ab rfl (ab rfl rfl))))))) (Nat.le_of_ble_eq_true rfl) rfl (fun h S => ?_)
                   refine S.c8 [(vi 11), (vi 0), (vi 0), (vi 0), (vi 0), (vi 0), (.bool false)] 0 rfl rfl rfl (by decide) ?_
                   cases M
                   exact H _ _  S.bJ
                 · have M := aX hc M
                   refine cg.2 ?_
                   refine bK (fun hc => ?_) (fun hc => ?_)
                   · have M := aV hc M
                     refine dD [(vi 1), (vi 11), (vi 0)] (by simp only [cQ, bo, bp, bt, bw,  List.length_cons, List.length_nil, Nat.reduceAdd, Nat.zero_add, decide_true, Bool.and_self]) (by simp only [List.flatMap_cons, List.flatMap_nil, bo, bp, bt, bw,  List.cons_append, List.nil_append, List.append_nil]) ?_
                     refine dD [(vi 1), (vi 0)] (by simp only [cQ, bo, bp, bt, bw,  List.length_cons, List.length_nil, Nat.reduceAdd, Nat.zero_add, decide_true, Bool.and_self]) (by simp only [List.flatMap_cons, List.flatMap_nil, bo, bp, bt, bw,  List.cons_append, List.nil_append, List.append_nil]) ?_
                     refine (gE (l := [(vi 1), (vi 11), (vi 0), (vi 0), (vi 1), (vi 0), (.bool false)]) (cJ (m := [(vi 1), (vi 11), (vi 0)]) (l2 := [(vi 1), (vi 11), (vi 0), (vi 0), (vi 0), (vi 0), (.bool false)]) rfl rfl (Nat.le_of_ble_eq_true rfl) rfl (cJ (m := [(vi 1), (vi 0)]) (l2 := [(vi 1), (vi 11), (vi 0), (vi 0), (vi 1), (vi 0), (.bool false)]) rfl rfl (Nat.le_of_ble_eq_true rfl) rfl rfl))).2 ?_
                     refine S.cv [(vi 1), (vi 11), (vi 0), (vi 0), (vi 1), (vi 0), (.bool false)] [(vi 1), (vi 11), (vi 0), (vi 0), (vi 1), (vi 0), (.bool false)] rfl rfl (ab rfl (ab rfl (ab rfl (ab rfl (ab rfl (ab rfl (ab rfl rfl))))))) (Nat.le_of_ble_eq_true rfl) rfl (fun h S => ?_)
                     refine S.c8 [(vi 1), (vi 11), (vi 0), (vi 0), (vi 1), (vi 0), (.bool false)] 0 rfl rfl rfl (by decide) ?_
                     cases M
                     exact H _ _  S.bJ
                   · have M := aX hc M
                     refine cg.2 ?_
                     refine bK (fun hc => ?_) (fun hc => ?_)
                     · have M := aV hc M
                       refine dD [(vi 12), (vi 0), (vi 0)] (by simp only [cQ, bo, bp, bt, bw,  List.length_cons, List.length_nil, Nat.reduceAdd, Nat.zero_add, decide_true, Bool.and_self]) (by simp only [List.flatMap_cons, List.flatMap_nil, bo, bp, bt, bw,  List.cons_append, List.nil_append, List.append_nil]) ?_
                       refine (gE (l := [(vi 12), (vi 0), (vi 0), (vi 0), (vi 0), (vi 0), (.bool true)]) (cJ (m := [(vi 12), (vi 0), (vi 0)]) (l2 := [(vi 12), (vi 0), (vi 0), (vi 0), (vi 0), (vi 0), (.bool false)]) rfl rfl (Nat.le_of_ble_eq_true rfl) rfl (cJ (m := [(.bool true)]) (l2 := [(vi 12), (vi 0), (vi 0), (vi 0), (vi 0), (vi 0), (.bool true)]) rfl rfl (Nat.le_of_ble_eq_true rfl) rfl rfl))).2 ?_
                       refine S.cv [(vi 12), (vi 0), (vi 0), (vi 0), (vi 0), (vi 0), (.bool true)] [(vi 12), (vi 0), (vi 0), (vi 0), (vi 0), (vi 0), (.bool true)] rfl rfl (ab rfl (ab rfl (ab rfl (ab rfl (ab rfl (ab rfl (ab rfl rfl))))))) (Nat.le_of_ble_eq_true rfl) rfl (fun h S => ?_)
                       refine S.c8 [(vi 12), (vi 0), (vi 0), (vi 0), (vi 0), (vi 0), (.bool true)] 0 rfl rfl rfl (by decide) ?_
                       cases M
                       exact H _ _  S.bJ
                     · have M := aX hc M
                       refine cg.2 ?_
                       refine bK (fun hc => ?_) (fun hc => ?_)
                       · have M := aV hc M
                         refine (gE (l := [(vi 0), (vi 0), (vi 0), (vi 0), (vi 0), (vi 0), (.bool true)]) (cJ (m := [(.bool true)]) (l2 := [(vi 0), (vi 0), (vi 0), (vi 0), (vi 0), (vi 0), (.bool true)]) rfl rfl (Nat.le_of_ble_eq_true rfl) rfl rfl)).2 ?_
                         refine S.cv [(vi 0), (vi 0), (vi 0), (vi 0), (vi 0), (vi 0), (.bool true)] [(vi 0), (vi 0), (vi 0), (vi 0), (vi 0), (vi 0), (.bool true)] rfl rfl (ab rfl (ab rfl (ab rfl (ab rfl (ab rfl (ab rfl (ab rfl rfl))))))) (Nat.le_of_ble_eq_true rfl) rfl (fun h S => ?_)
                         refine S.c8 [(vi 0), (vi 0), (vi 0), (vi 0), (vi 0), (vi 0), (.bool true)] 0 rfl rfl rfl (by decide) ?_
                         cases M
                         exact H _ _  S.bJ
                       · have M := aX hc M
                         refine cg.2 ?_
                         refine bK (fun hc => ?_) (fun hc => ?_)
                         · have M := aV hc M
                           refine dD [(vi 2), (vi 0), (vi 0)] (by simp only [cQ, bo, bp, bt, bw,  List.length_cons, List.length_nil, Nat.reduceAdd, Nat.zero_add, decide_true, Bool.and_self]) (by simp only [List.flatMap_cons, List.flatMap_nil, bo, bp, bt, bw,  List.cons_append, List.nil_append, List.append_nil]) ?_
                           refine dD [(vi 1), (vi 0)] (by simp only [cQ, bo, bp, bt, bw,  List.length_cons, List.length_nil, Nat.reduceAdd, Nat.zero_add, decide_true, Bool.and_self]) (by simp only [List.flatMap_cons, List.flatMap_nil, bo, bp, bt, bw,  List.cons_append, List.nil_append, List.append_nil]) ?_
                           refine (gE (l := [(vi 2), (vi 0), (vi 0), (vi 0), (vi 1), (vi 0), (.bool false)]) (cJ (m := [(vi 2), (vi 0), (vi 0)]) (l2 := [(vi 2), (vi 0), (vi 0), (vi 0), (vi 0), (vi 0), (.bool false)]) rfl rfl (Nat.le_of_ble_eq_true rfl) rfl (cJ (m := [(vi 1), (vi 0)]) (l2 := [(vi 2), (vi 0), (vi 0), (vi 0), (vi 1), (vi 0), (.bool false)]) rfl rfl (Nat.le_of_ble_eq_true rfl) rfl rfl))).2 ?_
                           refine S.cv [(vi 2), (vi 0), (vi 0), (vi 0), (vi 1), (vi 0), (.bool false)] [(vi 2), (vi 0), (vi 0), (vi 0), (vi 1), (vi 0), (.bool false)] rfl rfl (ab rfl (ab rfl (ab rfl (ab rfl (ab rfl (ab rfl (ab rfl rfl))))))) (Nat.le_of_ble_eq_true rfl) rfl (fun h S => ?_)
                           refine S.c8 [(vi 2), (vi 0), (vi 0), (vi 0), (vi 1), (vi 0), (.bool false)] 0 rfl rfl rfl (by decide) ?_
                           cases M
                           exact H _ _  S.bJ
                         · have M := aX hc M
                           refine cg.2 ?_
                           refine bK (fun hc => ?_) (fun hc => ?_)
                           · have M := aV hc M
                             refine dD [(vi 1), (vi 0), (vi 0)] (by simp only [cQ, bo, bp, bt, bw,  List.length_cons, List.length_nil, Nat.reduceAdd, Nat.zero_add, decide_true, Bool.and_self]) (by simp only [List.flatMap_cons, List.flatMap_nil, bo, bp, bt, bw,  List.cons_append, List.nil_append, List.append_nil]) ?_
                             refine dD [(vi 1), (vi 0)] (by simp only [cQ, bo, bp, bt, bw,  List.length_cons, List.length_nil, Nat.reduceAdd, Nat.zero_add, decide_true, Bool.and_self]) (by simp only [List.flatMap_cons, List.flatMap_nil, bo, bp, bt, bw,  List.cons_append, List.nil_append, List.append_nil]) ?_
                             refine (gE (l := [(vi 1), (vi 0), (vi 0), (vi 0), (vi 1), (vi 0), (.bool false)]) (cJ (m := [(vi 1), (vi 0), (vi 0)]) (l2 := [(vi 1), (vi 0), (vi 0), (vi 0), (vi 0), (vi 0), (.bool false)]) rfl rfl (Nat.le_of_ble_eq_true rfl) rfl (cJ (m := [(vi 1), (vi 0)]) (l2 := [(vi 1), (vi 0), (vi 0), (vi 0), (vi 1), (vi 0), (.bool false)]) rfl rfl (Nat.le_of_ble_eq_true rfl) rfl rfl))).2 ?_
                             refine S.cv [(vi 1), (vi 0), (vi 0), (vi 0), (vi 1), (vi 0), (.bool false)] [(vi 1), (vi 0), (vi 0), (vi 0), (vi 1), (vi 0), (.bool false)] rfl rfl (ab rfl (ab rfl (ab rfl (ab rfl (ab rfl (ab rfl (ab rfl rfl))))))) (Nat.le_of_ble_eq_true rfl) rfl (fun h S => ?_)
                             refine S.c8 [(vi 1), (vi 0), (vi 0), (vi 0), (vi 1), (vi 0), (.bool false)] 0 rfl rfl rfl (by decide) ?_
                             cases M
                             exact H _ _  S.bJ
                           · have M := aX hc M
                             refine cg.2 ?_
                             refine bK (fun hc => ?_) (fun hc => ?_)
                             · have M := aV hc M
                               refine dD [(vi 1), (vi 0), (vi 0)] (by simp only [cQ, bo, bp, bt, bw,  List.length_cons, List.length_nil, Nat.reduceAdd, Nat.zero_add, decide_true, Bool.and_self]) (by simp only [List.flatMap_cons, List.flatMap_nil, bo, bp, bt, bw,  List.cons_append, List.nil_append, List.append_nil]) ?_
                               refine dD [(vi 1), (vi 0)] (by simp only [cQ, bo, bp, bt, bw,  List.length_cons, List.length_nil, Nat.reduceAdd, Nat.zero_add, decide_true, Bool.and_self]) (by simp only [List.flatMap_cons, List.flatMap_nil, bo, bp, bt, bw,  List.cons_append, List.nil_append, List.append_nil]) ?_
                               refine (gE (l := [(vi 1), (vi 0), (vi 0), (vi 0), (vi 1), (vi 0), (.bool true)]) (cJ (m := [(vi 1), (vi 0), (vi 0)]) (l2 := [(vi 1), (vi 0), (vi 0), (vi 0), (vi 0), (vi 0), (.bool false)]) rfl rfl (Nat.le_of_ble_eq_true rfl) rfl (cJ (m := [(vi 1), (vi 0)]) (l2 := [(vi 1), (vi 0), (vi 0), (vi 0), (vi 1), (vi 0), (.bool false)]) rfl rfl (Nat.le_of_ble_eq_true rfl) rfl (cJ (m := [(.bool true)]) (l2 := [(vi 1), (vi 0), (vi 0), (vi 0), (vi 1), (vi 0), (.bool true)]) rfl rfl (Nat.le_of_ble_eq_true rfl) rfl rfl)))).2 ?_
                               refine S.cv [(vi 1), (vi 0), (vi 0), (vi 0), (vi 1), (vi 0), (.bool true)] [(vi 1), (vi 0), (vi 0), (vi 0), (vi 1), (vi 0), (.bool true)] rfl rfl (ab rfl (ab rfl (ab rfl (ab rfl (ab rfl (ab rfl (ab rfl rfl))))))) (Nat.le_of_ble_eq_true rfl) rfl (fun h S => ?_)
                               refine S.c8 [(vi 1), (vi 0), (vi 0), (vi 0), (vi 1), (vi 0), (.bool true)] 0 rfl rfl rfl (by decide) ?_
                               cases M
                               exact H _ _  S.bJ
                             · have M := aX hc M
                               refine cg.2 ?_
                               refine bK (fun hc => ?_) (fun hc => ?_)
                               · have M := aV hc M
                                 refine (gE (l := [(vi 0), (vi 0), (vi 0), (vi 0), (vi 0), (vi 0), (.bool false)]) rfl).2 ?_
                                 refine S.cv [(vi 0), (vi 0), (vi 0), (vi 0), (vi 0), (vi 0), (.bool false)] [(vi 0), (vi 0), (vi 0), (vi 0), (vi 0), (vi 0), (.bool false)] rfl rfl (ab rfl (ab rfl (ab rfl (ab rfl (ab rfl (ab rfl (ab rfl rfl))))))) (Nat.le_of_ble_eq_true rfl) rfl (fun h S => ?_)
                                 refine S.c8 [(vi 0), (vi 0), (vi 0), (vi 0), (vi 0), (vi 0), (.bool false)] 0 rfl rfl rfl (by decide) ?_
                                 cases M
                                 exact H _ _  S.bJ
                               · have M := aX hc M
                                 refine cg.2 ?_
                                 refine bK (fun hc => ?_) (fun hc => ?_)
                                 · have M := aV hc M
                                   refine dD [(vi 1), (vi 11), (vi 0)] (by simp only [cQ, bo, bp, bt, bw,  List.length_cons, List.length_nil, Nat.reduceAdd, Nat.zero_add, decide_true, Bool.and_self]) (by simp only [List.flatMap_cons, List.flatMap_nil, bo, bp, bt, bw,  List.cons_append, List.nil_append, List.append_nil]) ?_
                                   refine dD [(vi 1), (vi 0)] (by simp only [cQ, bo, bp, bt, bw,  List.length_cons, List.length_nil, Nat.reduceAdd, Nat.zero_add, decide_true, Bool.and_self]) (by simp only [List.flatMap_cons, List.flatMap_nil, bo, bp, bt, bw,  List.cons_append, List.nil_append, List.append_nil]) ?_
                                   refine (gE (l := [(vi 1), (vi 11), (vi 0), (vi 0), (vi 1), (vi 0), (.bool true)]) (cJ (m := [(vi 1), (vi 11), (vi 0)]) (l2 := [(vi 1), (vi 11), (vi 0), (vi 0), (vi 0), (vi 0), (.bool false)]) rfl rfl (Nat.le_of_ble_eq_true rfl) rfl (cJ (m := [(vi 1), (vi 0)]) (l2 := [(vi 1), (vi 11), (vi 0), (vi 0), (vi 1), (vi 0), (.bool false)]) rfl rfl (Nat.le_of_ble_eq_true rfl) rfl (cJ (m := [(.bool true)]) (l2 := [(vi 1), (vi 11), (vi 0), (vi 0), (vi 1), (vi 0), (.bool true)]) rfl rfl (Nat.le_of_ble_eq_true rfl) rfl rfl)))).2 ?_
                                   refine S.cv [(vi 1), (vi 11), (vi 0), (vi 0), (vi 1), (vi 0), (.bool true)] [(vi 1), (vi 11), (vi 0), (vi 0), (vi 1), (vi 0), (.bool true)] rfl rfl (ab rfl (ab rfl (ab rfl (ab rfl (ab rfl (ab rfl (ab rfl rfl))))))) (Nat.le_of_ble_eq_true rfl) rfl (fun h S => ?_)
                                   refine S.c8 [(vi 1), (vi 11), (vi 0), (vi 0), (vi 1), (vi 0), (.bool true)] 0 rfl rfl rfl (by decide) ?_
                                   cases M
                                   exact H _ _  S.bJ
                                 · have M := aX hc M
                                   refine cg.2 ?_
                                   refine bK (fun hc => ?_) (fun hc => ?_)
                                   · have M := aV hc M
                                     refine dD [(vi 1), (vi 13), (vi 0)] (by simp only [cQ, bo, bp, bt, bw,  List.length_cons, List.length_nil, Nat.reduceAdd, Nat.zero_add, decide_true, Bool.and_self]) (by simp only [List.flatMap_cons, List.flatMap_nil, bo, bp, bt, bw,  List.cons_append, List.nil_append, List.append_nil]) ?_
                                     refine (gE (l := [(vi 1), (vi 13), (vi 0), (vi 1), (vi 0), (vi 0), (.bool false)]) (cJ (m := [(vi 1), (vi 13), (vi 0)]) (l2 := [(vi 1), (vi 13), (vi 0), (vi 0), (vi 0), (vi 0), (.bool false)]) rfl rfl (Nat.le_of_ble_eq_true rfl) rfl (cJ (m := [(vi 1)]) (l2 := [(vi 1), (vi 13), (vi 0), (vi 1), (vi 0), (vi 0), (.bool false)]) rfl rfl (Nat.le_of_ble_eq_true rfl) rfl rfl))).2 ?_
                                     refine S.cv [(vi 1), (vi 13), (vi 0), (vi 1), (vi 0), (vi 0), (.bool false)] [(vi 1), (vi 13), (vi 0), (vi 1), (vi 0), (vi 0), (.bool false)] rfl rfl (ab rfl (ab rfl (ab rfl (ab rfl (ab rfl (ab rfl (ab rfl rfl))))))) (Nat.le_of_ble_eq_true rfl) rfl (fun h S => ?_)
                                     refine S.c8 [(vi 1), (vi 13), (vi 0), (vi 1), (vi 0), (vi 0), (.bool false)] 0 rfl rfl rfl (by decide) ?_
                                     cases M
                                     exact H _ _  S.bJ
                                   · have M := aX hc M
                                     refine cg.2 ?_
                                     refine bK (fun hc => ?_) (fun hc => ?_)
                                     · have M := aV hc M
                                       refine dD [(vi 13), (vi 1), (vi 0)] (by simp only [cQ, bo, bp, bt, bw,  List.length_cons, List.length_nil, Nat.reduceAdd, Nat.zero_add, decide_true, Bool.and_self]) (by simp only [List.flatMap_cons, List.flatMap_nil, bo, bp, bt, bw,  List.cons_append, List.nil_append, List.append_nil]) ?_
                                       refine dD [(vi 2), (vi 0)] (by simp only [cQ, bo, bp, bt, bw,  List.length_cons, List.length_nil, Nat.reduceAdd, Nat.zero_add, decide_true, Bool.and_self]) (by simp only [List.flatMap_cons, List.flatMap_nil, bo, bp, bt, bw,  List.cons_append, List.nil_append, List.append_nil]) ?_
                                       refine (gE (l := [(vi 13), (vi 1), (vi 0), (vi 0), (vi 2), (vi 0), (.bool false)]) (cJ (m := [(vi 13), (vi 1), (vi 0)]) (l2 := [(vi 13), (vi 1), (vi 0), (vi 0), (vi 0), (vi 0), (.bool false)]) rfl rfl (Nat.le_of_ble_eq_true rfl) rfl (cJ (m := [(vi 2), (vi 0)]) (l2 := [(vi 13), (vi 1), (vi 0), (vi 0), (vi 2), (vi 0), (.bool false)]) rfl rfl (Nat.le_of_ble_eq_true rfl) rfl rfl))).2 ?_
                                       refine S.cv [(vi 13), (vi 1), (vi 0), (vi 0), (vi 2), (vi 0), (.bool false)] [(vi 13), (vi 1), (vi 0), (vi 0), (vi 2), (vi 0), (.bool false)] rfl rfl (ab rfl (ab rfl (ab rfl (ab rfl (ab rfl (ab rfl (ab rfl rfl))))))) (Nat.le_of_ble_eq_true rfl) rfl (fun h S => ?_)
                                       refine S.c8 [(vi 13), (vi 1), (vi 0), (vi 0), (vi 2), (vi 0), (.bool false)] 0 rfl rfl rfl (by decide) ?_
                                       cases M
                                       exact H _ _  S.bJ
                                     · have M := aX hc M
                                       exact aib M S  H
theorem CC {w0 : World} {c : Cx} {g h : AH} {E R : Value → W} {r : cR × Bool} {v1 : cR} {x0 : Int} {xd : Bool} {ar : Nat}  (M : uw v1 x0 xd = some r) (S : Sep c g h [.bx ar [(vi v1.gY.e0), (vi v1.gY.e1), (vi v1.gY.e2), (vi v1.ux), (vi v1.ln.e0), (vi v1.ln.e1), (.bool v1.q8)]])   (H : zi c R r) : vl w0 E R (al ar 0) (vi x0) (.bool xd) h := by
 unfold vl
 unfold uw at M
 refine bK (fun hc => ?_) (fun hc => ?_)
 · have M := aV hc M
   refine dD [(vi 1), (vi 1), (vi 1)] (by simp only [cQ, bo, bp, bt, bw,  List.length_cons, List.length_nil, Nat.reduceAdd, Nat.zero_add, decide_true, Bool.and_self]) (by simp only [List.flatMap_cons, List.flatMap_nil, bo, bp, bt, bw,  List.cons_append, List.nil_append, List.append_nil]) ?_
   refine dD [(vi 2), (vi 3)] (by simp only [cQ, bo, bp, bt, bw,  List.length_cons, List.length_nil, Nat.reduceAdd, Nat.zero_add, decide_true, Bool.and_self]) (by simp only [List.flatMap_cons, List.flatMap_nil, bo, bp, bt, bw,  List.cons_append, List.nil_append, List.append_nil]) ?_
   refine dD [(vi 1), (vi 1), (vi 1), (vi 1), (vi 2), (vi 3), (.bool true)] (by simp only [cQ, bo, bp, bt, bw,  List.length_cons, List.length_nil, Nat.reduceAdd, Nat.zero_add, decide_true, Bool.and_self]) (by simp only [List.flatMap_cons, List.flatMap_nil, bo, bp, bt, bw,  List.cons_append, List.nil_append, List.append_nil]) ?_
   refine S.cv [(vi 1), (vi 1), (vi 1), (vi 1), (vi 2), (vi 3), (.bool true)] [(vi 1), (vi 1), (vi 1), (vi 1), (vi 2), (vi 3), (.bool true)] rfl rfl (ab rfl (ab rfl (ab rfl (ab rfl (ab rfl (ab rfl (ab rfl rfl))))))) (Nat.le_of_ble_eq_true rfl) rfl (fun h S => ?_)
   refine S.c8 [(vi 1), (vi 1), (vi 1), (vi 1), (vi 2), (vi 3), (.bool true)] 0 rfl rfl rfl (by decide) ?_
   cases M
   exact H _ _  S.bJ
 · have M := aX hc M
   refine cg.2 ?_
   refine bK (fun hc => ?_) (fun hc => ?_)
   · have M := aV hc M
     exact Pn M S  H
   · have M := aX hc M
     refine cg.2 ?_
     refine bK (fun hc => ?_) (fun hc => ?_)
     · have M := aV hc M
       exact Pn M S  H
     · have M := aX hc M
       refine cg.2 ?_
       exact Pn M S  H
theorem HQ {w0 : World} {c : Cx} {g h : AH} {E R : Value → W} {r : cR × Bool} {v1 : cR} {x0 : Int} {xf : Bool} {ar : Nat}  (M : wL v1 x0 xf = some r) (S : Sep c g h [.bx ar [(vi v1.gY.e0), (vi v1.gY.e1), (vi v1.gY.e2), (vi v1.ux), (vi v1.ln.e0), (vi v1.ln.e1), (.bool v1.q8)]])   (H : zi c R r) : xe w0 E R (al ar 0) (vi x0) (.bool xf) h := by
 unfold xe
 unfold wL at M
 refine bK (fun hc => ?_) (fun hc => ?_)
 · have M := aV hc M
   refine dD [(vi 1), (vi 1), (vi 0)] (by simp only [cQ, bo, bp, bt, bw,  List.length_cons, List.length_nil, Nat.reduceAdd, Nat.zero_add, decide_true, Bool.and_self]) (by simp only [List.flatMap_cons, List.flatMap_nil, bo, bp, bt, bw,  List.cons_append, List.nil_append, List.append_nil]) ?_
   refine dD [(vi 2), (vi 0)] (by simp only [cQ, bo, bp, bt, bw,  List.length_cons, List.length_nil, Nat.reduceAdd, Nat.zero_add, decide_true, Bool.and_self]) (by simp only [List.flatMap_cons, List.flatMap_nil, bo, bp, bt, bw,  List.cons_append, List.nil_append, List.append_nil]) ?_
   refine (gE (l := [(vi 1), (vi 1), (vi 0), (vi 1), (vi 2), (vi 0), (.bool false)]) (cJ (m := [(vi 1), (vi 1), (vi 0)]) (l2 := [(vi 1), (vi 1), (vi 0), (vi 0), (vi 0), (vi 0), (.bool false)]) rfl rfl (Nat.le_of_ble_eq_true rfl) rfl (cJ (m := [(vi 1)]) (l2 := [(vi 1), (vi 1), (vi 0), (vi 1), (vi 0), (vi 0), (.bool false)]) rfl rfl (Nat.le_of_ble_eq_true rfl) rfl (cJ (m := [(vi 2), (vi 0)]) (l2 := [(vi 1), (vi 1), (vi 0), (vi 1), (vi 2), (vi 0), (.bool false)]) rfl rfl (Nat.le_of_ble_eq_true rfl) rfl rfl)))).2 ?_
   refine S.cv [(vi 1), (vi 1), (vi 0), (vi 1), (vi 2), (vi 0), (.bool false)] [(vi 1), (vi 1), (vi 0), (vi 1), (vi 2), (vi 0), (.bool false)] rfl rfl (ab rfl (ab rfl (ab rfl (ab rfl (ab rfl (ab rfl (ab rfl rfl))))))) (Nat.le_of_ble_eq_true rfl) rfl (fun h S => ?_)
   refine S.c8 [(vi 1), (vi 1), (vi 0), (vi 1), (vi 2), (vi 0), (.bool false)] 0 rfl rfl rfl (by decide) ?_
   cases M
   exact H _ _  S.bJ
 · have M := aX hc M
   refine cg.2 ?_
   refine bK (fun hc => ?_) (fun hc => ?_)
   · have M := aV hc M
     exact CC M S  H
   · have M := aX hc M
     refine cg.2 ?_
     refine bK (fun hc => ?_) (fun hc => ?_)
     · have M := aV hc M
       exact CC M S  H
     · have M := aX hc M
       refine cg.2 ?_
       refine bK (fun hc => ?_) (fun hc => ?_)
       · have M := aV hc M
         exact CC M S  H
       · have M := aX hc M
         refine cg.2 ?_
         refine bK (fun hc => ?_) (fun hc => ?_)
         · have M := aV hc M
           exact CC M S  H
         · have M := aX hc M
           refine cg.2 ?_
           exact CC M S  H
theorem Yd {w0 : World} {c : Cx} {g h : AH} {E R : Value → W} {r : cR × Bool} {v1 : cR} {x0 : Int} {mH : Bool} {ar : Nat}  (M : CB v1 x0 mH = some r) (S : Sep c g h [.bx ar [(vi v1.gY.e0), (vi v1.gY.e1), (vi v1.gY.e2), (vi v1.ux), (vi v1.ln.e0), (vi v1.ln.e1), (.bool v1.q8)]])   (H : zi c R r) : Ex w0 E R (al ar 0) (vi x0) (.bool mH) h := by
 unfold Ex
 unfold CB at M
 refine bK (fun hc => ?_) (fun hc => ?_)
 · have M := aV hc M
   refine dD [(vi 1), (vi 0), (vi 0)] (by simp only [cQ, bo, bp, bt, bw,  List.length_cons, List.length_nil, Nat.reduceAdd, Nat.zero_add, decide_true, Bool.and_self]) (by simp only [List.flatMap_cons, List.flatMap_nil, bo, bp, bt, bw,  List.cons_append, List.nil_append, List.append_nil]) ?_
   refine (gE (l := [(vi 1), (vi 0), (vi 0), (vi 1), (vi 0), (vi 0), (.bool false)]) (cJ (m := [(vi 1), (vi 0), (vi 0)]) (l2 := [(vi 1), (vi 0), (vi 0), (vi 0), (vi 0), (vi 0), (.bool false)]) rfl rfl (Nat.le_of_ble_eq_true rfl) rfl (cJ (m := [(vi 1)]) (l2 := [(vi 1), (vi 0), (vi 0), (vi 1), (vi 0), (vi 0), (.bool false)]) rfl rfl (Nat.le_of_ble_eq_true rfl) rfl rfl))).2 ?_
   refine S.cv [(vi 1), (vi 0), (vi 0), (vi 1), (vi 0), (vi 0), (.bool false)] [(vi 1), (vi 0), (vi 0), (vi 1), (vi 0), (vi 0), (.bool false)] rfl rfl (ab rfl (ab rfl (ab rfl (ab rfl (ab rfl (ab rfl (ab rfl rfl))))))) (Nat.le_of_ble_eq_true rfl) rfl (fun h S => ?_)
   refine S.c8 [(vi 1), (vi 0), (vi 0), (vi 1), (vi 0), (vi 0), (.bool false)] 0 rfl rfl rfl (by decide) ?_
   cases M
   exact H _ _  S.bJ
 · have M := aX hc M
   refine cg.2 ?_
   refine bK (fun hc => ?_) (fun hc => ?_)
   · have M := aV hc M
     exact HQ M S  H
   · have M := aX hc M
     refine cg.2 ?_
     refine bK (fun hc => ?_) (fun hc => ?_)
     · have M := aV hc M
       exact HQ M S  H
     · have M := aX hc M
       refine cg.2 ?_
       refine bK (fun hc => ?_) (fun hc => ?_)
       · have M := aV hc M
         exact HQ M S  H
       · have M := aX hc M
         refine cg.2 ?_
         exact HQ M S  H
theorem aic {w0 : World} {g h : AH} {Q : CR → AH → Prop} {r : cR × Bool} {x0 : Int} (M : zh x0 = some r) (sg : Sub g h) (ok : h.Ok)  (H : zi ⟨g, h, []⟩ (fun v => Q (.ret v)) r) : WF PP w0 JT [(vi x0)] h Q := by
 refine aaY _ ?_
 have S := Sep.start sg ok
 unfold RW
 unfold zh at M
 refine S.alloc (l := [(vi 0), (vi 0), (vi 0), (vi 0), (vi 0), (vi 0), (.bool false)]) (ab rfl (ab rfl (ab rfl (ab rfl (ab rfl (ab rfl (ab rfl rfl))))))) (fun jF h S => ?_)
 refine cg.2 ?_
 refine bK (fun hc => ?_) (fun hc => ?_)
 · have M := aV hc M
   refine dD [(vi 1), (vi 3), (vi 0)] (by simp only [cQ, bo, bp, bt, bw,  List.length_cons, List.length_nil, Nat.reduceAdd, Nat.zero_add, decide_true, Bool.and_self]) (by simp only [List.flatMap_cons, List.flatMap_nil, bo, bp, bt, bw,  List.cons_append, List.nil_append, List.append_nil]) ?_
   refine (gE (l := [(vi 1), (vi 3), (vi 0), (vi 1), (vi 0), (vi 0), (.bool false)]) (cJ (m := [(vi 1), (vi 3), (vi 0)]) (l2 := [(vi 1), (vi 3), (vi 0), (vi 0), (vi 0), (vi 0), (.bool false)]) rfl rfl (Nat.le_of_ble_eq_true rfl) rfl (cJ (m := [(vi 1)]) (l2 := [(vi 1), (vi 3), (vi 0), (vi 1), (vi 0), (vi 0), (.bool false)]) rfl rfl (Nat.le_of_ble_eq_true rfl) rfl rfl))).2 ?_
   refine S.cv [(vi 1), (vi 3), (vi 0), (vi 1), (vi 0), (vi 0), (.bool false)] [(vi 1), (vi 3), (vi 0), (vi 1), (vi 0), (vi 0), (.bool false)] rfl rfl (ab rfl (ab rfl (ab rfl (ab rfl (ab rfl (ab rfl (ab rfl rfl))))))) (Nat.le_of_ble_eq_true rfl) rfl (fun h S => ?_)
   refine S.c8 [(vi 1), (vi 3), (vi 0), (vi 1), (vi 0), (vi 0), (.bool false)] 0 rfl rfl rfl (by decide) ?_
   cases M
   exact H _ _  S.bJ
 · have M := aX hc M
   refine cg.2 ?_
   refine bK (fun hc => ?_) (fun hc => ?_)
   · have M := aV hc M
     refine dD [(vi 1), (vi 4), (vi 0)] (by simp only [cQ, bo, bp, bt, bw,  List.length_cons, List.length_nil, Nat.reduceAdd, Nat.zero_add, decide_true, Bool.and_self]) (by simp only [List.flatMap_cons, List.flatMap_nil, bo, bp, bt, bw,  List.cons_append, List.nil_append, List.append_nil]) ?_
     refine (gE (l := [(vi 1), (vi 4), (vi 0), (vi 1), (vi 0), (vi 0), (.bool false)]) (cJ (m := [(vi 1), (vi 4), (vi 0)]) (l2 := [(vi 1), (vi 4), (vi 0), (vi 0), (vi 0), (vi 0), (.bool false)]) rfl rfl (Nat.le_of_ble_eq_true rfl) rfl (cJ (m := [(vi 1)]) (l2 := [(vi 1), (vi 4), (vi 0), (vi 1), (vi 0), (vi 0), (.bool false)]) rfl rfl (Nat.le_of_ble_eq_true rfl) rfl rfl))).2 ?_
     refine S.cv [(vi 1), (vi 4), (vi 0), (vi 1), (vi 0), (vi 0), (.bool false)] [(vi 1), (vi 4), (vi 0), (vi 1), (vi 0), (vi 0), (.bool false)] rfl rfl (ab rfl (ab rfl (ab rfl (ab rfl (ab rfl (ab rfl (ab rfl rfl))))))) (Nat.le_of_ble_eq_true rfl) rfl (fun h S => ?_)
     refine S.c8 [(vi 1), (vi 4), (vi 0), (vi 1), (vi 0), (vi 0), (.bool false)] 0 rfl rfl rfl (by decide) ?_
     cases M
     exact H _ _  S.bJ
   · have M := aX hc M
     refine cg.2 ?_
     refine bK (fun hc => ?_) (fun hc => ?_)
     · have M := aV hc M
       exact Yd M S  H
     · have M := aX hc M
       refine cg.2 ?_
       exact Yd M S  H
def Ye   : Option (Int × Bool) :=
 some (0, false)
def Po (v1 : aq) (v8 : Bool)  : Option (Int × Bool) :=
 bif v8 then (
 some (v1.fB, true)) else (
 Ye )
def Yf (v1 : aq)  : Option (Int × Bool) :=
 bif (decide (v1.aJ = 25)) then (
 Po v1 true) else (
 Po v1 (decide (v1.aJ = 32)))
def CD (x0 : aq) : Option (Int × Bool) :=
 bif (decide (x0.aJ = 24)) then (
 some (x0.fA, true)) else (
 Yf x0)
def aid (N : Nat) (mo : Int) (Yg : ag) (sL : Int → Option Bool) : Option Bool :=
 sL (bf .i64 (mo + 1))
def HS (N : Nat) (mo : Int) (mC : Bool) (Yg : ag) (sL : Int → Option Bool) : Option Bool :=
 bif mC then (
 some false) else (
 aid N mo Yg sL)
def Pp (N : Nat) (v1 : ag) (mo : Int) (v4 : Int) (sL : Int → Option Bool) : Option Bool :=
(ix v1.aa mo).bind fun CE =>
(zh CE.aJ).bind fun oc =>
(ix v1.aa mo).bind fun gj =>
(CD gj).bind fun nr =>
 bif (!oc.2) then (
 HS N mo true v1 sL) else (
 bif nr.2 then (
(sK nr.1 0 (bf .i64 (v4 - 1))).bind fun sG =>
 HS N mo (!sG) v1 sL) else (
 HS N mo false v1 sL))
def aie (N : Nat) (y6 : Int) (uy : ag) (mq : Int → Option Bool) : Option Bool :=
 mq (bf .i64 (y6 + 1))
def Pq (N : Nat) (y6 : Int) (fZ : Bool) (uy : ag) (mq : Int → Option Bool) : Option Bool :=
 bif fZ then (
 some false) else (
 aie N y6 uy mq)
def Ps (N : Nat) (v12 : aE) (v4 : Int) (y6 : Int) (iE : Bool) (uy : ag) (mq : Int → Option Bool) : Option Bool :=
 bif iE then (
 Pq N y6 true uy mq) else (
(sK v12.dM 0 (bf .i64 (v4 - 1))).bind fun qP =>
 Pq N y6 (!qP) uy mq)
def CF (N : Nat) (v12 : aE) (v4 : Int) (y6 : Int) (bG : Bool) (uy : ag) (mq : Int → Option Bool) : Option Bool :=
 bif bG then (
 Ps N v12 v4 y6 true uy mq) else (
 Ps N v12 v4 y6 (decide (v4 < v12.eK)) uy mq)
def aif (N : Nat) (v1 : ag) (y6 : Int) (v4 : Int) (mq : Int → Option Bool) : Option Bool :=
(ix v1.aB y6).bind fun px =>
 bif (decide (px.dZ < 0)) then (
 CF N px v4 y6 true v1 mq) else (
 CF N px v4 y6 (decide (px.eK ≤ px.dZ)) v1 mq)
def aih (N : Nat)   : Option Bool :=
 some true
def aii (N : Nat) (v1 : ag) (v4 : Int) (y6 : Int) (mq : Int → Option Bool) : Option Bool :=
 bif (decide (y6 < (v1.aB.length : Int))) then (
 aif N v1 y6 v4 mq) else (
 aih N )
def Pt (N : Nat) (v1 : ag) (v4 : Int)  : Nat → Int → Option Bool
 | 0, _ => none
 | n + 1, y6 => aii N v1 v4 y6  (fun av => Pt N v1 v4 n av)
def HT (N : Nat) (v1 : ag) (v4 : Int)  : Option Bool :=
 Pt N v1 v4 N 0
def aij (N : Nat) (v4 : Int) (v1 : ag) (mo : Int) (sL : Int → Option Bool) : Option Bool :=
 bif (decide (mo < v4)) then (
 Pp N v1 mo v4 sL) else (
 HT N v1 v4)
def Pu (N : Nat) (v4 : Int) (v1 : ag)  : Nat → Int → Option Bool
 | 0, _ => none
 | n + 1, mo => aij N v4 v1 mo  (fun av => Pu N v4 v1 n av)
def Pv (N : Nat) (v4 : Int) (v1 : ag)  : Option Bool :=
 Pu N v4 v1 N 0
def Pw (N : Nat) (v4 : Int) (v1 : ag) (rl : Bool)  : Option Bool :=
 bif rl then (
 some false) else (
 Pv N v4 v1)
def Px (N : Nat) (v1 : ag) (v4 : Int) (iH : Bool)  : Option Bool :=
 bif iH then (
 Pw N v4 v1 true) else (
(sK v1.aL 0 200).bind fun oa =>
 Pw N v4 v1 (!oa))
def Py (N : Nat) (v1 : ag) (v4 : Int) (v76 : Bool)  : Option Bool :=
 bif v76 then (
 Px N v1 v4 true) else (
(sK v1.aK 0 200).bind fun jG =>
 Px N v1 v4 (!jG))
def CG (N : Nat) (x0 : ag) : Option Bool :=
(sK (x0.aa.length : Int) 1 600).bind fun bD =>
 bif (!bD) then (
 Py N x0 (x0.aa.length : Int) true) else (
 Py N x0 (x0.aa.length : Int) (decide (40 < (x0.aB.length : Int))))
end
end Go.Ve.T
namespace Go.Ve.T
open Go.Ve Go.Proofs
noncomputable section
set_option maxRecDepth 10000
def CH (x0 : aE) (x1 : Int) : Option Bool :=
 bif (decide (x0.dZ ≤ x1)) then (
 some (decide (x1 < x0.eK))) else (
 some false)
abbrev aik (c : Cx) (R : Value → W) (r : Bool) : Prop := ∀ (g' h' : AH), Sep c g' h' [] → R (.bool r) h'
theorem ail {w0 : World} {g h : AH} {Q : CR → AH → Prop} {r : Bool} {x0 : aE} {x1 : Int} {mn : Nat} (M : CH x0 x1 = some r) (sg : Sub g h) (ok : h.Ok) (nq : g.bE mn 0 [(vi x1)]) (H : aik ⟨g, h, []⟩ (fun v => Q (.ret v)) r) : WF PP w0 DW [(.agg ⟨[(vi x0.dZ), (vi x0.eK), (vi x0.dM)]⟩), (al mn 0)] h Q := by
 refine Z6 _ _ ?_
 have S := Sep.start sg ok
 unfold Rg
 unfold CH at M
 refine S.box [(vi x0.dZ), (vi x0.eK), (vi x0.dM)] rfl (ab rfl (ab rfl (ab rfl rfl))) (fun jF h S => ?_)
 refine cr.2 ?_
 refine S.bj 0 rfl rfl ?_
 refine S.gr (nq 0 _ rfl) ?_
 refine tQ.2 ?_
 cases hc : (decide (x0.dZ ≤ x1))
 · have M := aX hc M
   refine aI (by decide) ?_
   refine aI (by decide) ?_
   refine aI (by decide) ?_
   refine aI (by decide) ?_
   refine bB.2 ?_
   cases M
   exact H _ _  S.bJ
 · have M := aV hc M
   refine aH rfl ?_
   refine S.gr (nq 0 _ rfl) ?_
   refine aH rfl ?_
   refine cr.2 ?_
   refine aH rfl ?_
   refine S.bj 0 rfl rfl ?_
   refine aH rfl ?_
   refine jf.2 ?_
   refine bB.2 ?_
   cases M
   exact H _ _  S.bJ
def zj (N : Nat) (x0 : ag) (x1 : Int) : Option Int :=
(za N x0.aB (fun a0 => CH a0 x1)).bind fun pg =>
 some pg
abbrev aim (c : Cx) (R : Value → W) (r : Int) : Prop := ∀ (g' h' : AH), Sep c g' h' [] → R (vi r) h'
theorem Yh {w0 : World} {g h : AH} {Q : CR → AH → Prop} {r : Int} {N : Nat} {x0 : ag} {x1 : Int} {cx cy : Value} (M : zj N x0 x1 = some r) (sg : Sub g h) (ok : h.Ok) (cu : ae aq.rep 4 g cx x0.aa) (cD : ae aE.rep 3 g cy x0.aB) (H : aim ⟨g, h, []⟩ (fun v => Q (.ret v)) r) : WF PP w0 DZ [(.agg ⟨[(.string x0.aO), (.string x0.aP), (vi x0.fArgs), (vi x0.aK), (vi x0.aL), cx, cy]⟩), (vi x1)] h Q := by
 refine aaa _ _ ?_
 have S := Sep.start sg ok
 unfold Ri
 unfold zj at M
 refine S.box [(.string x0.aO), (.string x0.aP), (vi x0.fArgs), (vi x0.aK), (vi x0.aL), cx, cy] rfl (ab rfl (ab rfl (ab rfl (ab rfl (ab rfl (ab cu.one (ab cD.one rfl))))))) (fun jF h S => ?_)
 refine S.box [(vi x1)] rfl (ab rfl rfl) (fun wG h S => ?_)
 refine cr.2 ?_
 refine S.bj 1 rfl rfl ?_
 refine (Gq (by simp)).2 ?_
 obtain ⟨g, sg, S, r_3⟩ := S.yR
 have cu := ae.mono cu aq.mono sg
 have cD := ae.mono cD aE.mono sg
 have Pz : pe w0 g (.func (.func DW) ⟨[]⟩ ⟨[(al wG 0)]⟩) (fun a0 => CH a0 x1) := ⟨rfl, fun a0 r E K g2 h2 s1 s2 s3  m1 k1 => ail m1 s2 s3 (Sub.bE s1 r_3) k1⟩
 obtain ⟨pg, wI, M⟩ := bind_some M
 refine X5 wI S.sub S.ok cD Pz (fun _ h  S1  => ?_)
 have S := S.eo S1
 cases M
 exact H _ _  S.bJ
def HU   : Option Int :=
 some 0
def zk (y8 : Bool)  : Option Int :=
 bif y8 then (
 some (-1)) else (
 HU )
def CI (v1 : aq) (x1 : Int) (cw : Bool)  : Option Int :=
 bif cw then (
 zk cw) else (
 bif (decide (v1.aJ = 32)) then (
 zk (decide (x1 = 1))) else (
 zk false))
def CJ (v1 : aq) (x1 : Int) (v7 : Bool)  : Option Int :=
 bif v7 then (
 some 1) else (
 bif (decide (v1.aJ = 31)) then (
 CI v1 x1 (decide (x1 = 0))) else (
 CI v1 x1 false))
def CK (x0 : aq) (x1 : Int) : Option Int :=
 bif (decide (x0.aJ = 30)) then (
 CJ x0 x1 (decide (x1 = 0))) else (
 CJ x0 x1 false)
abbrev CL (c : Cx) (R : Value → W) (r : Int) : Prop := ∀ (g' h' : AH), Sep c g' h' [] → R (vi r) h'
theorem ain {w0 : World} {c : Cx} {g h : AH} {E R : Value → W} {r : Int}   (M : HU  = some r) (S : Sep c g h [])   (H : CL c R r) : I9 w0 E R  h := by
 unfold I9
 unfold HU at M
 cases M
 exact H _ _  S.bJ
theorem PA {w0 : World} {c : Cx} {g h : AH} {E R : Value → W} {r : Int} {y8 : Bool}  (M : zk y8 = some r) (S : Sep c g h [])   (H : CL c R r) : D4 w0 E R (.bool y8) h := by
 unfold D4
 unfold zk at M
 refine bK (fun hc => ?_) (fun hc => ?_)
 · have M := aV hc M
   cases M
   exact H _ _  S.bJ
 · have M := aX hc M
   exact ain M S  H
theorem Yi {w0 : World} {c : Cx} {g h : AH} {E R : Value → W} {r : Int} {v1 : aq} {x1 : Int} {cw : Bool} {ar : Nat}  (M : CI v1 x1 cw = some r) (S : Sep c g h [.bx ar [(vi v1.aJ), (vi v1.fA), (vi v1.fB), (vi v1.fC)]])   (H : CL c R r) : Ja w0 E R (al ar 0) (vi x1) (.bool cw) h := by
 unfold Ja
 unfold CI at M
 refine bK (fun hc => ?_) (fun hc => ?_)
 · have M := aV hc M
   have S := S.t0
   exact PA M S  H
 · have M := aX hc M
   refine cr.2 ?_
   refine S.bj 0 rfl rfl ?_
   refine cg.2 ?_
   cases hc : (decide (v1.aJ = 32))
   · have M := aX hc M
     refine aI (by decide) ?_
     refine aI (by decide) ?_
     refine bB.2 ?_
     have S := S.t0
     exact PA M S  H
   · have M := aV hc M
     refine aH rfl ?_
     refine aH rfl ?_
     refine cg.2 ?_
     refine bB.2 ?_
     have S := S.t0
     exact PA M S  H
theorem Yj {w0 : World} {c : Cx} {g h : AH} {E R : Value → W} {r : Int} {v1 : aq} {x1 : Int} {v7 : Bool} {ar : Nat}  (M : CJ v1 x1 v7 = some r) (S : Sep c g h [.bx ar [(vi v1.aJ), (vi v1.fA), (vi v1.fB), (vi v1.fC)]])   (H : CL c R r) : Jb w0 E R (al ar 0) (vi x1) (.bool v7) h := by
 unfold Jb
 unfold CJ at M
 refine bK (fun hc => ?_) (fun hc => ?_)
 · have M := aV hc M
   cases M
   exact H _ _  S.bJ
 · have M := aX hc M
   refine cr.2 ?_
   refine S.bj 0 rfl rfl ?_
   refine cg.2 ?_
   cases hc : (decide (v1.aJ = 31))
   · have M := aX hc M
     refine aI (by decide) ?_
     refine aI (by decide) ?_
     refine bB.2 ?_
     exact Yi M S  H
   · have M := aV hc M
     refine aH rfl ?_
     refine aH rfl ?_
     refine cg.2 ?_
     refine bB.2 ?_
     exact Yi M S  H
theorem aio {w0 : World} {g h : AH} {Q : CR → AH → Prop} {r : Int} {x0 : aq} {x1 : Int} (M : CK x0 x1 = some r) (sg : Sub g h) (ok : h.Ok)  (H : CL ⟨g, h, []⟩ (fun v => Q (.ret v)) r) : WF PP w0 Jc [(.agg ⟨[(vi x0.aJ), (vi x0.fA), (vi x0.fB), (vi x0.fC)]⟩), (vi x1)] h Q := by
 refine aal _ _ ?_
 have S := Sep.start sg ok
 unfold RA
 unfold CK at M
 refine S.box [(vi x0.aJ), (vi x0.fA), (vi x0.fB), (vi x0.fC)] rfl (ab rfl (ab rfl (ab rfl (ab rfl rfl)))) (fun jF h S => ?_)
 refine cr.2 ?_
 refine S.bj 0 rfl rfl ?_
 refine cg.2 ?_
 cases hc : (decide (x0.aJ = 30))
 · have M := aX hc M
   refine aI (by decide) ?_
   refine aI (by decide) ?_
   refine bB.2 ?_
   exact Yj M S  H
 · have M := aV hc M
   refine aH rfl ?_
   refine aH rfl ?_
   refine cg.2 ?_
   refine bB.2 ?_
   exact Yj M S  H
def PB (v1 : aq) (v12 : Bool)  : Option Bool :=
 bif v12 then (
 some true) else (
 some (decide (v1.aJ = 28)))
def PC (v1 : aq) (v8 : Bool)  : Option Bool :=
 bif v8 then (
 PB v1 true) else (
 PB v1 (decide (v1.aJ = 27)))
def HV (x0 : aq) : Option Bool :=
 bif (decide (x0.aJ = 24)) then (
 PC x0 true) else (
 PC x0 (decide (x0.aJ = 26)))
def wy (x0 : aq) : Option Bool :=
(zh x0.aJ).bind fun bD =>
 some bD.1.q8
abbrev aip (c : Cx) (R : Value → W) (r : Bool) : Prop := ∀ (g' h' : AH), Sep c g' h' [] → R (.bool r) h'
theorem agO {w0 : World} {g h : AH} {Q : CR → AH → Prop} {r : Bool} {x0 : aq} (M : wy x0 = some r) (sg : Sub g h) (ok : h.Ok)  (H : aip ⟨g, h, []⟩ (fun v => Q (.ret v)) r) : WF PP w0 JU [(.agg ⟨[(vi x0.aJ), (vi x0.fA), (vi x0.fB), (vi x0.fC)]⟩)] h Q := by
 refine aaZ _ ?_
 have S := Sep.start sg ok
 unfold RY
 unfold wy at M
 refine S.box [(vi x0.aJ), (vi x0.fA), (vi x0.fB), (vi x0.fC)] rfl (ab rfl (ab rfl (ab rfl (ab rfl rfl)))) (fun jF h S => ?_)
 refine cr.2 ?_
 refine S.bj 0 rfl rfl ?_
 obtain ⟨bD, jE, M⟩ := bind_some M
 refine aic jE S.sub S.ok (fun _ h  S1  => ?_)
 have S := S.eo S1
 refine (gT rfl).2 ?_
 refine (gT rfl).2 ?_
 refine S.alloc (l := [(vi 0), (vi 0), (vi 0), (vi 0), (vi 0), (vi 0), (.bool false)]) (ab rfl (ab rfl (ab rfl (ab rfl (ab rfl (ab rfl (ab rfl rfl))))))) (fun HN h S => ?_)
 refine S.cv [(vi bD.1.gY.e0), (vi bD.1.gY.e1), (vi bD.1.gY.e2), (vi bD.1.ux), (vi bD.1.ln.e0), (vi bD.1.ln.e1), (.bool bD.1.q8)] [(vi bD.1.gY.e0), (vi bD.1.gY.e1), (vi bD.1.gY.e2), (vi bD.1.ux), (vi bD.1.ln.e0), (vi bD.1.ln.e1), (.bool bD.1.q8)] rfl rfl (ab rfl (ab rfl (ab rfl (ab rfl (ab rfl (ab rfl (ab rfl rfl))))))) (Nat.le_of_ble_eq_true rfl) rfl (fun h S => ?_)
 refine cr.2 ?_
 refine S.bj 0 rfl rfl ?_
 cases M
 exact H _ _  S.bJ
def Yk (N : Nat) (y4 : Int) (amp : List Int) (CM : Int → Option ((List Int))) : Option ((List Int)) :=
 CM (bf .i64 (y4 + 1))
def CN (N : Nat) (x0 : List Int) (y4 : Int) (x1 : Int) (CM : Int → Option ((List Int))) : Option ((List Int)) :=
(ix x0 y4).bind fun fo =>
 bif (decide (fo = x1)) then (
 some x0) else (
 Yk N y4 x0 CM)
def Yl (N : Nat) (x1 : Int) (x0 : List Int)  : Option ((List Int)) :=
 gu (decide (x0.length + [x1].length ≤ 1048576)) (
 some (x0 ++ [x1]))
def aiq (N : Nat) (x0 : List Int) (x1 : Int) (y4 : Int) (CM : Int → Option ((List Int))) : Option ((List Int)) :=
 bif (decide (y4 < (x0.length : Int))) then (
 CN N x0 y4 x1 CM) else (
 Yl N x1 x0)
def PD (N : Nat) (x0 : List Int) (x1 : Int)  : Nat → Int → Option ((List Int))
 | 0, _ => none
 | n + 1, y4 => aiq N x0 x1 y4  (fun av => PD N x0 x1 n av)
def zl (N : Nat) (x0 : List Int) (x1 : Int) : Option ((List Int)) :=
 PD N x0 x1 N 0
def PE (N : Nat) (az : List Int)  : Option ((List Int)) :=
 some az
def HW (N : Nat) (v6 : aq) (y8 : List Int)  : Option ((List Int)) :=
(CD v6).bind fun Ym =>
 bif Ym.2 then (
(zl N y8 Ym.1).bind fun ku =>
 PE N ku) else (
 PE N y8)
def PF (N : Nat) (x1 : Int) (v6 : aq) (v24 : Bool)  : Option ((List Int)) :=
 bif v24 then (
 gu (decide (([] : List Int).length + [(bf .i64 (x1 + 1))].length ≤ 1048576)) (
 HW N v6 (([] : List Int) ++ [(bf .i64 (x1 + 1))]))) else (
 HW N v6 ([] : List Int))
def PG (N : Nat) (x0 : ag) (x1 : Int) : Option ((List Int)) :=
(ix x0.aa x1).bind fun bD =>
(HV bD).bind fun lk =>
 bif (!lk) then (
 PF N x1 bD (decide ((bf .i64 (x1 + 1)) < (x0.aa.length : Int)))) else (
 PF N x1 bD false)
def air (N : Nat) (y3 : Int) (Yn : ag) (cK : Int → Option Int) : Option Int :=
 cK (bf .i64 (y3 + 1))
def Yo (N : Nat) (y3 : Int) (dw : Bool) (Yn : ag) (cK : Int → Option Int) : Option Int :=
 bif dw then (
 some y3) else (
 air N y3 Yn cK)
def ais (N : Nat) (v1 : ag) (y3 : Int) (x1 : Int) (cK : Int → Option Int) : Option Int :=
(ix v1.aB y3).bind fun bD =>
 bif (decide (bD.dZ ≤ x1)) then (
(ix v1.aB y3).bind fun CE =>
 Yo N y3 (decide (x1 < CE.eK)) v1 cK) else (
 Yo N y3 false v1 cK)
def ait (N : Nat)   : Option Int :=
 some (-1)
def aiu (N : Nat) (v1 : ag) (x1 : Int) (y3 : Int) (cK : Int → Option Int) : Option Int :=
 bif (decide (y3 < (v1.aB.length : Int))) then (
 ais N v1 y3 x1 cK) else (
 ait N )
def CO (N : Nat) (v1 : ag) (x1 : Int)  : Nat → Int → Option Int
 | 0, _ => none
 | n + 1, y3 => aiu N v1 x1 y3  (fun av => CO N v1 x1 n av)
def CP (N : Nat) (x0 : ag) (x1 : Int) : Option Int :=
 CO N x0 x1 N 0
def PH (N : Nat) (y6 : List Int)  : Option ((List Int)) :=
 some y6
def PI (N : Nat) (v1 : ag) (v5 : Int) (v3 : List Int) (cw : Bool)  : Option ((List Int)) :=
 bif cw then (
(ix v1.aB v5).bind fun gj =>
(zl N v3 gj.dM).bind fun nr =>
 PH N nr) else (
 PH N v3)
def PJ (N : Nat) (x0 : ag) (x1 : Int) : Option ((List Int)) :=
(PG N x0 x1).bind fun bD =>
(CP N x0 x1).bind fun eT =>
(ix x0.aa x1).bind fun lk =>
(wy lk).bind fun aiv =>
 bif aiv then (
 PI N x0 eT bD (decide (0 ≤ eT))) else (
 PI N x0 eT bD false)
def Yp (N : Nat) (v1 : ag) (x1 : Int)  : Option ((List Int)) :=
(PJ N v1 x1).bind fun oa =>
 some oa
def PK (N : Nat) (v1 : ag) (x1 : Int) (cw : Bool)  : Option ((List Int)) :=
 bif cw then (
 some ([] : List Int)) else (
 Yp N v1 x1)
def Yq (N : Nat) (x0 : ag) (x1 : Int) : Option ((List Int)) :=
(CG N x0).bind fun bD =>
 bif (!bD) then (
 PK N x0 x1 true) else (
(sK x1 0 (bf .i64 ((x0.aa.length : Int) - 1))).bind fun jG =>
 PK N x0 x1 (!jG))
def Yr (N : Nat) (v1 : ag) (x1 : Int)  : Option Int :=
(CP N v1 x1).bind fun oa =>
 some oa
def PL (N : Nat) (v1 : ag) (x1 : Int) (cw : Bool)  : Option Int :=
 bif cw then (
 some (-1)) else (
 Yr N v1 x1)
def Ys (N : Nat) (x0 : ag) (x1 : Int) : Option Int :=
(CG N x0).bind fun bD =>
 bif (!bD) then (
 PL N x0 x1 true) else (
(sK x1 0 (bf .i64 ((x0.aa.length : Int) - 1))).bind fun jG =>
 PL N x0 x1 (!jG))
def PM (N : Nat) (fe : Int) (PN : ag) (aiw : List Bool) (fq : Int → (List Bool) → Option ((List Int))) : Option ((List Int)) :=
 fq (bf .i64 (fe + 1)) aiw
def HX (N : Nat) (fe : Int) (v6 : List Bool) (gB : Bool) (PN : ag) (fq : Int → (List Bool) → Option ((List Int))) : Option ((List Int)) :=
 bif gB then (
(ix v6 (bf .i64 (fe + 1))).bind fun amq =>
 PM N fe PN (v6.set (bf .i64 (fe + 1)).toNat true) fq) else (
 PM N fe PN v6 fq)
def PO (N : Nat) (v1 : ag) (fe : Int) (v6 : List Bool) (mA : Bool) (fq : Int → (List Bool) → Option ((List Int))) : Option ((List Int)) :=
 bif mA then (
 HX N fe v6 true v1 fq) else (
(ix v1.aa fe).bind fun aix =>
 HX N fe v6 (decide (aix.aJ = 32)) v1 fq)
def HY (N : Nat) (v1 : ag) (fe : Int) (v6 : List Bool) (fq : Int → (List Bool) → Option ((List Int))) : Option ((List Int)) :=
(ix v1.aa fe).bind fun aiy =>
(HV aiy).bind fun aiz =>
 bif aiz then (
 PO N v1 fe v6 true fq) else (
(ix v1.aa fe).bind fun aiA =>
 PO N v1 fe v6 (decide (aiA.aJ = 25)) fq)
def PS (N : Nat) (v1 : ag) (v31 : Int) (v6 : List Bool) (fe : Int) (ou : Bool) (fq : Int → (List Bool) → Option ((List Int))) : Option ((List Int)) :=
 bif ou then (
(ix v1.aB v31).bind fun Yt =>
(ix v6 Yt.dM).bind fun amr =>
 HY N v1 fe (v6.set Yt.dM.toNat true) fq) else (
 HY N v1 fe v6 fq)
def HZ (N : Nat) (v1 : ag) (fe : Int) (v6 : List Bool) (fq : Int → (List Bool) → Option ((List Int))) : Option ((List Int)) :=
(CP N v1 fe).bind fun PU =>
(ix v1.aa fe).bind fun ij =>
(wy ij).bind fun aiB =>
 bif aiB then (
 PS N v1 PU v6 fe (decide (0 ≤ PU)) fq) else (
 PS N v1 PU v6 fe false fq)
def PV (N : Nat) (v1 : ag) (fe : Int) (v6 : List Bool) (fq : Int → (List Bool) → Option ((List Int))) : Option ((List Int)) :=
(ix v1.aa fe).bind fun oc =>
(CD oc).bind fun uo =>
 bif uo.2 then (
(ix v6 uo.1).bind fun ams =>
 HZ N v1 fe (v6.set uo.1.toNat true) fq) else (
 HZ N v1 fe v6 fq)
def PW (N : Nat) (aR : Int) (az : List Int) (aiC : List Bool) (zm : (List Int) → Int → (List Bool) → Option ((List Int))) : Option ((List Int)) :=
 zm az (bf .i64 (aR + 1)) aiC
def Yu (N : Nat) (v6 : List Bool) (aR : Int) (j4 : List Int) (zm : (List Int) → Int → (List Bool) → Option ((List Int))) : Option ((List Int)) :=
(ix v6 aR).bind fun aiD =>
 bif aiD then (
 gu (decide (j4.length + [aR].length ≤ 1048576)) (
 PW N aR (j4 ++ [aR]) v6 zm)) else (
 PW N aR j4 v6 zm)
def aiE (N : Nat) (y9 : List Int)  : Option ((List Int)) :=
 some y9
def CQ (N : Nat) (v4 : Int) (v6 : List Bool) (j4 : List Int) (aR : Int) (zm : (List Int) → Int → (List Bool) → Option ((List Int))) : Option ((List Int)) :=
 bif (decide (aR < v4)) then (
 Yu N v6 aR j4 zm) else (
 aiE N j4)
def CS (N : Nat) (v4 : Int)  : Nat → (List Bool) → (List Int) → Int → Option ((List Int))
 | 0, _, _, _ => none
 | n + 1, v6, j4, aR => CQ N v4 v6 j4 aR  (fun av aY pz => CS N v4 n pz av aY)
def H0 (N : Nat) (v4 : Int) (v6 : List Bool)  : Option ((List Int)) :=
 CS N v4 N v6 ([] : List Int) 0
def CT (N : Nat) (v4 : Int) (v1 : ag) (v6 : List Bool) (fe : Int) (fq : Int → (List Bool) → Option ((List Int))) : Option ((List Int)) :=
 bif (decide (fe < v4)) then (
 PV N v1 fe v6 fq) else (
 H0 N v4 v6)
def H5 (N : Nat) (v4 : Int) (v1 : ag)  : Nat → (List Bool) → Int → Option ((List Int))
 | 0, _, _ => none
 | n + 1, v6, fe => CT N v4 v1 v6 fe  (fun av dJ => H5 N v4 v1 n dJ av)
def PY (N : Nat) (v1 : ag)  : Option ((List Int)) :=
 gu (decide (0 ≤ (bf .i64 ((v1.aa.length : Int) + 1))) && decide ((bf .i64 ((v1.aa.length : Int) + 1)) ≤ 65536)) (
(ix (List.replicate (bf .i64 ((v1.aa.length : Int) + 1)).toNat false) 0).bind fun eT =>
 H5 N (v1.aa.length : Int) v1 N ((List.replicate (bf .i64 ((v1.aa.length : Int) + 1)).toNat false).set (0 : Int).toNat true) 0)
def H6 (N : Nat) (x0 : ag) : Option ((List Int)) :=
(CG N x0).bind fun bD =>
 bif (!bD) then (
 some ([] : List Int)) else (
 PY N x0)
def H7 (N : Nat) (v1 : ag) (x1 : Int)  : Option Int :=
(zj N v1 x1).bind fun oa =>
 some oa
def CU (N : Nat) (v1 : ag) (x1 : Int) (cw : Bool)  : Option Int :=
 bif cw then (
 some (-1)) else (
 H7 N v1 x1)
def B8 (N : Nat) (x0 : ag) (x1 : Int) : Option Int :=
(sH N x0).bind fun bD =>
 bif (!bD) then (
 CU N x0 x1 true) else (
(om x1 0 (bf .i64 ((x0.aa.length : Int) - 1))).bind fun jG =>
 CU N x0 x1 (!jG))
abbrev PZ (c : Cx) (R : Value → W) (r : Int) : Prop := ∀ (g' h' : AH), Sep c g' h' [] → R (vi r) h'
theorem aiF {w0 : World} {c : Cx} {g h : AH} {E R : Value → W} {r : Int} {N : Nat} {v1 : ag} {x1 : Int} {ar : Nat} {aw ax : Value}  (M : H7 N v1 x1 = some r) (S : Sep c g h [.bx ar [(.string v1.aO), (.string v1.aP), (vi v1.fArgs), (vi v1.aK), (vi v1.aL), aw, ax]]) (aA : ae aq.rep 4 g aw v1.aa) (aG : ae aE.rep 3 g ax v1.aB)  (H : PZ c R r) : JX w0 E R (al ar 0) (vi x1) h := by
 unfold JX
 unfold H7 at M
 refine S.c8 [(.string v1.aO), (.string v1.aP), (vi v1.fArgs), (vi v1.aK), (vi v1.aL), aw, ax] 0 rfl rfl rfl (by decide) ?_
 obtain ⟨oa, OD, M⟩ := bind_some M
 refine Yh OD S.sub S.ok aA aG (fun _ h  S1  => ?_)
 have S := S.eo S1
 cases M
 exact H _ _  S.bJ
theorem Yv {w0 : World} {c : Cx} {g h : AH} {E R : Value → W} {r : Int} {N : Nat} {v1 : ag} {x1 : Int} {cw : Bool} {ar : Nat} {aw ax : Value}  (M : CU N v1 x1 cw = some r) (S : Sep c g h [.bx ar [(.string v1.aO), (.string v1.aP), (vi v1.fArgs), (vi v1.aK), (vi v1.aL), aw, ax]]) (aA : ae aq.rep 4 g aw v1.aa) (aG : ae aE.rep 3 g ax v1.aB)  (H : PZ c R r) : JY w0 E R (al ar 0) (vi x1) (.bool cw) h := by
 unfold JY
 unfold CU at M
 refine bK (fun hc => ?_) (fun hc => ?_)
 · have M := aV hc M
   cases M
   exact H _ _  S.bJ
 · have M := aX hc M
   exact aiF M S aA aG H
theorem agK {w0 : World} {g h : AH} {Q : CR → AH → Prop} {r : Int} {N : Nat} {x0 : ag} {x1 : Int} {cx cy : Value} (M : B8 N x0 x1 = some r) (sg : Sub g h) (ok : h.Ok) (cu : ae aq.rep 4 g cx x0.aa) (cD : ae aE.rep 3 g cy x0.aB) (H : PZ ⟨g, h, []⟩ (fun v => Q (.ret v)) r) : WF PP w0 JZ [(.agg ⟨[(.string x0.aO), (.string x0.aP), (vi x0.fArgs), (vi x0.aK), (vi x0.aL), cx, cy]⟩), (vi x1)] h Q := by
 refine aa4 _ _ ?_
 have S := Sep.start sg ok
 unfold R5
 unfold B8 at M
 refine S.box [(.string x0.aO), (.string x0.aP), (vi x0.fArgs), (vi x0.aK), (vi x0.aL), cx, cy] rfl (ab rfl (ab rfl (ab rfl (ab rfl (ab rfl (ab cu.one (ab cD.one rfl))))))) (fun jF h S => ?_)
 refine S.c8 [(.string x0.aO), (.string x0.aP), (vi x0.fArgs), (vi x0.aK), (vi x0.aL), cx, cy] 0 rfl rfl rfl (by decide) ?_
 obtain ⟨bD, jE, M⟩ := bind_some M
 refine CA jE S.sub S.ok cu cD (fun _ h  S1  => ?_)
 have S := S.eo S1
 refine fy.2 ?_
 cases hc : (!bD)
 · have M := aX hc M
   refine aH rfl ?_
   refine aH rfl ?_
   refine cr.2 ?_
   refine aH rfl ?_
   refine S.bj 0 rfl rfl ?_
   refine aH rfl ?_
   refine cu.len ?_
   refine aH rfl ?_
   refine wg.2 ?_
   refine aH rfl ?_
   obtain ⟨jG, wA, M⟩ := bind_some M
   refine uj wA S.sub S.ok (fun _ h  S1  => ?_)
   have S := S.eo S1
   refine aH rfl ?_
   refine fy.2 ?_
   refine bB.2 ?_
   exact Yv M S cu cD H
 · have M := aV hc M
   refine aI (by decide) ?_
   refine aI (by decide) ?_
   refine aI (by decide) ?_
   refine aI (by decide) ?_
   refine aI (by decide) ?_
   refine aI (by decide) ?_
   refine aI (by decide) ?_
   refine bB.2 ?_
   exact Yv M S cu cD H
def H8 (N : Nat) (y3 : Int) (cK : Int → Option Int) : Option Int :=
 cK (bf .i64 (y3 + 1))
def CV (N : Nat) (x0 : List Int) (y3 : Int) (x1 : Int) (cK : Int → Option Int) : Option Int :=
(ix x0 y3).bind fun fo =>
 bif (decide (x1 = fo)) then (
 some y3) else (
 H8 N y3 cK)
def H9 (N : Nat)   : Option Int :=
 some (-1)
def P0 (N : Nat) (v1 : Int) (x0 : List Int) (x1 : Int) (y3 : Int) (cK : Int → Option Int) : Option Int :=
 bif (decide (y3 < v1)) then (
 CV N x0 y3 x1 cK) else (
 H9 N )
def CW (N : Nat) (v1 : Int) (x0 : List Int) (x1 : Int)  : Nat → Int → Option Int
 | 0, _ => none
 | n + 1, y3 => P0 N v1 x0 x1 y3  (fun av => CW N v1 x0 x1 n av)
def CX (N : Nat) (x0 : List Int) (x1 : Int) : Option Int :=
 CW N (x0.length : Int) x0 x1 N 0
abbrev zn (c : Cx) (R : Value → W) (r : Int) : Prop := ∀ (g' h' : AH), Sep c g' h' [] → R (vi r) h'
theorem aiG {w0 : World} {c : Cx} {g h : AH} {E R : Value → W} {r : Int} {N : Nat} {y3 : Int} {k2 : Value → W} {cK : Int → Option Int} {gz : AH} (M : H8 N y3 cK = some r) (S : Sep c g h [])  (kD : Sub gz g) (kE : ∀ {av : Int} {g2 h2 : AH}, cK av = some r → Sub gz g2 → Sep c g2 h2 [] → k2 (vi av) h2) (H : zn c R r) : Jw w0 E R (vi y3) k2 h := by
 unfold Jw
 unfold H8 at M
 refine iw.2 ?_
 exact kE M kD S
theorem aiH {w0 : World} {c : Cx} {g h : AH} {E R : Value → W} {r : Int} {N : Nat} {x0 : List Int} {y3 x1 : Int} {bZ : Value} {k2 : Value → W} {cK : Int → Option Int} {gz : AH} (M : CV N x0 y3 x1 cK = some r) (S : Sep c g h []) (cA : ae (rI .i64) 1 g bZ x0) (kD : Sub gz g) (kE : ∀ {av : Int} {g2 h2 : AH}, cK av = some r → Sub gz g2 → Sep c g2 h2 [] → k2 (vi av) h2) (H : zn c R r) : Jx w0 E R bZ (vi y3) (vi x1) k2 h := by
 unfold Jx
 unfold CV at M
 obtain ⟨fo, lN, M⟩ := bind_some M
 refine ae.idx cA lN (fun wq Oq vs Ot wu rp => ?_)
 cases rp
 refine S.gr (wu 0 _ rfl) ?_
 refine cg.2 ?_
 refine bK (fun hc => ?_) (fun hc => ?_)
 · have M := aV hc M
   cases M
   exact H _ _  S.bJ
 · have M := aX hc M
   exact aiG M S kD kE H
theorem aiI {w0 : World} {c : Cx} {g h : AH} {E R : Value → W} {r : Int} {N : Nat}   (M : H9 N  = some r) (S : Sep c g h [])   (H : zn c R r) : Jv w0 E R  h := by
 unfold Jv
 unfold H9 at M
 cases M
 exact H _ _  S.bJ
theorem aiJ {w0 : World} {c : Cx} {g h : AH} {E R : Value → W} {r : Int} {N : Nat} {v1 : Int} {x0 : List Int} {x1 y3 : Int} {bZ : Value} {k2 : Value → W} {cK : Int → Option Int} {gz : AH} (M : P0 N v1 x0 x1 y3 cK = some r) (S : Sep c g h []) (cA : ae (rI .i64) 1 g bZ x0) (kD : Sub gz g) (kE : ∀ {av : Int} {g2 h2 : AH}, cK av = some r → Sub gz g2 → Sep c g2 h2 [] → k2 (vi av) h2) (H : zn c R r) : Ej w0 E R (vi v1) bZ (vi x1) k2 (vi y3) h := by
 unfold Ej
 unfold P0 at M
 refine jf.2 ?_
 refine bK (fun hc => ?_) (fun hc => ?_)
 · have M := aV hc M
   exact aiH M S cA kD kE H
 · have M := aX hc M
   exact aiI M S  H
theorem aiK {w0 : World} {c : Cx} {E R : Value → W} {r : Int} {N : Nat} {v1 : Int} {x0 : List Int} {x1 : Int} {bZ : Value}   (H : zn c R r) : ∀ (n : Nat) {y3 : Int} {g h : AH}, CW N v1 x0 x1 n y3 = some r → Sep c g h [] → ae (rI .i64) 1 g bZ x0 → jX (α := Value) (fun k a => Ej w0 E R (vi v1) bZ (vi x1) k a) n (vi y3) h := by
 intro n
 induction n with
 | zero =>
  intro y3  g h M S cA
  unfold CW at M; cases M
 | succ n ih =>
  intro y3  g h M S cA
  exact aiJ M S cA  (Sub.refl g) (fun M2 sub S2  => ih M2 S2 (ae.mono cA (fG .i64) sub) ) H
theorem aiL {w0 : World} {g h : AH} {Q : CR → AH → Prop} {r : Int} {N : Nat} {x0 : List Int} {x1 : Int} {bZ : Value} (M : CX N x0 x1 = some r) (sg : Sub g h) (ok : h.Ok) (cA : ae (rI .i64) 1 g bZ x0) (H : zn ⟨g, h, []⟩ (fun v => Q (.ret v)) r) : WF PP w0 Jy [bZ, (vi x1)] h Q := by
 refine aaz _ _ ?_
 have S := Sep.start sg ok
 unfold RJ
 unfold CX at M
 refine cA.len ?_
 exact ⟨N, aiK  H _ M S cA ⟩
def CY (N : Nat) (x0 : List Int) (x1 : Int) : Option Bool :=
(CX N x0 x1).bind fun fo =>
 some (decide (0 ≤ fo))
abbrev aiM (c : Cx) (R : Value → W) (r : Bool) : Prop := ∀ (g' h' : AH), Sep c g' h' [] → R (.bool r) h'
theorem aiN {w0 : World} {g h : AH} {Q : CR → AH → Prop} {r : Bool} {N : Nat} {x0 : List Int} {x1 : Int} {bZ : Value} (M : CY N x0 x1 = some r) (sg : Sub g h) (ok : h.Ok) (cA : ae (rI .i64) 1 g bZ x0) (H : aiM ⟨g, h, []⟩ (fun v => Q (.ret v)) r) : WF PP w0 Jz [bZ, (vi x1)] h Q := by
 refine aaB _ _ ?_
 have S := Sep.start sg ok
 unfold RK
 unfold CY at M
 obtain ⟨fo, lN, M⟩ := bind_some M
 refine aiL lN S.sub S.ok cA (fun _ h  S1  => ?_)
 have S := S.eo S1
 refine qo.2 ?_
 cases M
 exact H _ _  S.bJ
end
end Go.Ve.T
namespace Go.Ve
open Go.RowKit
noncomputable section
section
variable {h : AH} {R : Value → AH → Prop}
theorem QI {a b : Nat} (ha : a ≤ 18446744073709551615) (hb : b ≤ 18446744073709551615) : WP (.aD .and) [.int .u64 (a : Int), .int .u64 (b : Int)] h R ↔ R (.int .u64 ((a &&& b : Nat) : Int)) h := cC fun kk => by
 show iff (eS .u64 .u64) (bif Nat.ble a 18446744073709551615 && Nat.ble b 18446744073709551615 then fN (Nat.land a b) (fun n => kk (.int .u64 (.ofNat n)) h) else false) = _
 have e : (Nat.ble a 18446744073709551615 && Nat.ble b 18446744073709551615) = true := by simp only [Bool.and_eq_true, Nat.ble_eq]; exact ⟨ha, hb⟩
 rw [mZ, eJ, e, cond_true, bO]; rfl
theorem Dv {a b : Nat} (hb : b ≤ 64) : WP (.aD .shr) [.int .u64 (a : Int), .int .u64 (b : Int)] h R ↔ R (.int .u64 ((a >>> b : Nat) : Int)) h := cC fun kk => by
 show (bif Nat.ble b 64 then fN (Nat.shiftRight a b) (fun n => kk (.int .u64 (.ofNat n)) h) else false) = _
 have e : Nat.ble b 64 = true := by rw [Nat.ble_eq]; exact hb
 rw [e, cond_true, bO]; rfl
theorem pJ {n : Int} (h1 : 0 ≤ n) (h2 : n ≤ 18446744073709551615) : bf .u64 n = n := by
 show IntKind.u64.wrap n = n
 simp only [IntKind.wrap, IntKind.bits, IntKind.signed]
 first | omega | (simp; omega)
theorem Zj {sz b o n cap b' o' n' cH : Nat} {l : List Value} {m : Nat} (hm : m = min n' n) (hr : h.bE b' o' l) (hl : l.length = m * sz) (h0 : 0 < m * sz) (hc : h.can b o l.length) (ha : cP l = true) : WP (.copy sz) [dL b o n cap, dL b' o' n' cH] h R ↔ R (vi (m : Int)) (h.wr b o l) := cC fun k => by
 show fN (bif Nat.ble n' n then n' else n) (fun q => bif Nat.beq q 0 then k (.int .i64 (.ofNat 0)) h else jQ h b' o' (Nat.mul q sz) fun l => oT h b o l fun h => k (.int .i64 (.ofNat q)) h) = _
 have e : (bif Nat.ble n' n then n' else n) = m := by
  rw [hm]
  cases hb : Nat.ble n' n with
  | true => rw [Nat.ble_eq] at hb; rw [Nat.min_eq_left hb]; rfl
  | false =>
   have : ¬ n' ≤ n := fun hh => by rw [← Nat.ble_eq, hb] at hh; cases hh
   rw [Nat.min_eq_right (by omega)]; rfl
 rw [bO, e]
 have hm0 : m ≠ 0 := fun e => by rw [e] at h0; simp at h0
 rw [eP hm0]
 show jQ h b' o' (m * sz) _ = _
 rw [Gg hr hl h0, Gh hc ha]; rfl
end
end
end Go.Ve
namespace Go.Ve.T
open Go.Ve Go.Proofs
noncomputable section
set_option maxRecDepth 10000
section
variable {w0 : World} {g h : AH} {Q : CR → AH → Prop}
theorem akN (n : Nat) (hn : n ≤ 65536) (H : Q (.ret (.tuple ⟨[.int .u64 0, .int .u64 (n : Int)]⟩)) h) : WF PP w0 I5 [.int .u64 1, .int .u64 (n : Int)] h Q := by
 refine aah _ _ ?_
 unfold Rr
 refine oi ?_
 unfold Rq
 refine aae _ _ ?_
 unfold Ro
 have e1 : (1 : Nat) &&& 4294967295 = 1 := by decide
 have e2 : (1 : Nat) >>> 32 = 0 := by decide
 have e3 : n &&& 4294967295 = n := by
  have := Nat.and_two_pow_sub_one_eq_mod n 32
  rw [show (4294967295 : Nat) = 2 ^ 32 - 1 by decide, this]; exact Nat.mod_eq_of_lt (by omega)
 have e4 : n >>> 32 = 0 := by rw [Nat.shiftRight_eq_div_pow]; exact Nat.div_eq_of_lt (by omega)
 refine (QI (a := 1) (b := 4294967295) (by decide) (by decide)).2 ?_
 refine (Dv (a := 1) (b := 32) (by decide)).2 ?_
 refine (QI (a := n) (b := 4294967295) (by omega) (by decide)).2 ?_
 refine (Dv (a := n) (b := 32) (by decide)).2 ?_
 rw [e1, e2, e3, e4]
 refine BA.2 ?_
 rw [show bf .u64 (((1 : Nat) : Int) * (n : Int)) = (n : Int) by rw [Int.natCast_one, Int.one_mul]; exact pJ (by omega) (by omega)]
 refine BA.2 ?_
 rw [show bf .u64 (((0 : Nat) : Int) * (n : Int)) = ((0 : Nat) : Int) by simp; exact pJ (by omega) (by omega)]
 refine (Dv (a := n) (b := 32) (by decide)).2 ?_
 rw [e4]
 refine iw.2 ?_
 rw [show bf .u64 (((0 : Nat) : Int) + ((0 : Nat) : Int)) = ((0 : Nat) : Int) from pJ (by omega) (by omega)]
 refine (QI (a := 0) (b := 4294967295) (by decide) (by decide)).2 ?_
 refine (Dv (a := 0) (b := 32) (by decide)).2 ?_
 rw [show (0 : Nat) &&& 4294967295 = 0 by decide, show (0 : Nat) >>> 32 = 0 by decide]
 refine BA.2 ?_
 rw [show bf .u64 (((1 : Nat) : Int) * ((0 : Nat) : Int)) = ((0 : Nat) : Int) from pJ (by omega) (by omega)]
 refine iw.2 ?_
 rw [show bf .u64 (((0 : Nat) : Int) + ((0 : Nat) : Int)) = ((0 : Nat) : Int) from pJ (by omega) (by omega)]
 refine BA.2 ?_
 rw [show bf .u64 (((0 : Nat) : Int) * ((0 : Nat) : Int)) = ((0 : Nat) : Int) from pJ (by omega) (by omega)]
 refine iw.2 ?_
 rw [show bf .u64 (((0 : Nat) : Int) + ((0 : Nat) : Int)) = ((0 : Nat) : Int) from pJ (by omega) (by omega)]
 refine (Dv (a := 0) (b := 32) (by decide)).2 ?_
 rw [show (0 : Nat) >>> 32 = 0 by decide]
 refine iw.2 ?_
 rw [show bf .u64 (((0 : Nat) : Int) + ((0 : Nat) : Int)) = ((0 : Nat) : Int) from pJ (by omega) (by omega)]
 refine BA.2 ?_
 rw [show bf .u64 ((1 : Int) * (n : Int)) = (n : Int) by rw [Int.one_mul]; exact pJ (by omega) (by omega)]
 refine (gT rfl).2 ?_
 refine (gT rfl).2 ?_
 exact H
def Ie (x0 : List Int) (x1 : Int) : Option (List Int) := match x0 with
 | [a] => gu (decide (1 ≤ x1) && decide (x1 ≤ 65536)) (some (List.replicate x1.toNat a))
 | _ => none
theorem aju {r : List Int} (x0 : List Int) (x1 : Int) (bZ : Value) (sg : Sub g h) (ok : h.Ok) (cA : ae (rI .i64) 1 g bZ x0) (M : Ie x0 x1 = some r)
 (H : ∀ (g' h' : AH) (w1 : Value) (Zk : List (List Value)), Sep ⟨g, h, []⟩ g' h' [.sl 3 1 w1 Zk] → aM (rI .i64 g') Zk r → Q (.ret w1) h') : WF PP w0 I8 [bZ, vi x1] h Q := by
 unfold Ie at M
 split at M
 case h_2 => cases M
 rename_i a
 obtain ⟨hb, M⟩ := qQ M
 cases M
 rw [Bool.and_eq_true, decide_eq_true_eq, decide_eq_true_eq] at hb
 obtain ⟨n, rfl⟩ : ∃ n : Nat, x1 = n := ⟨x1.toNat, by omega⟩
 rw [Int.toNat_natCast] at H
 have S := Sep.start sg ok
 obtain ⟨Zl, X, A⟩ := cA
 have QJ : ∃ b o cap, bZ = dL b o 1 cap ∧ h.bE b o [vi a] := by
  cases X with
  | nil => have := A.1; simp at this
  | mk b o m cap _ hn hc hs hr =>
   have hl : Zl.length = 1 := A.1
   match Zl, hl with
   | [cs], _ =>
    have e : cs = [vi a] := A.2 0 cs a rfl rfl
    subst e
    subst hn
    exact ⟨b, o, cap, rfl, sg.bE hr⟩
 obtain ⟨b0, o0, OU, rfl, oP⟩ := QJ
 refine aaj _ _ ?_
 unfold Rz
 refine jf.2 ?_
 rw [decide_eq_false (by omega)]
 refine oi ?_
 unfold Ry
 refine M8.2 ?_
 refine Gp.2 ?_
 refine Gp.2 ?_
 rw [show bf .u64 ((1 : Nat) : Int) = 1 from pJ (by omega) (by omega), show bf .u64 (n : Int) = (n : Int) from pJ (by omega) (by omega)]
 refine akN n (by omega) ?_
 refine (gT rfl).2 ?_
 refine (gT rfl).2 ?_
 refine oY.2 ?_
 rw [decide_eq_false (by omega)]
 refine aH rfl ?_
 refine aH rfl ?_
 refine oY.2 ?_
 rw [decide_eq_false (by omega)]
 refine bB.2 ?_
 unfold Rx
 refine oi ?_
 unfold Rw
 refine Gp.2 ?_
 rw [jW (by omega) (by omega)]
 have yr : ∀ k : Nat, (List.replicate k [vi 0]).flatten = List.replicate k (vi 0) := fun k => by
  induction k with
  | zero => rfl
  | succ k ih => rw [List.replicate_succ, List.flatten_cons, ih]; rfl
 have eO : ∀ (k : Nat) (x : Int), cP (List.replicate k (vi x)) = true := fun k x => by
  induction k with
  | zero => rfl
  | succ k ih => rw [List.replicate_succ, sj, ih]; rfl
 refine (V2 (Nat.le_refl n) (by omega) rfl (by rw [yr]; exact eO n 0)).2 ?_
 rw [yr]
 have K1 := cU.new h 3 (List.replicate n (vi 0))
 have fE : (h.new 3 (List.replicate n (vi 0))).can h.nx 0 n := by
  have := AH.MX h 3 (List.replicate n (vi 0)) (o := 0) (n := n) (by simp)
  exact this
 have Zm : (h.new 3 (List.replicate n (vi 0))).can h.nx 0 1 := by obtain ⟨lo, hi, ty, c, q1, q2, q3⟩ := fE; exact ⟨lo, hi, ty, c, q1, q2, by omega⟩
 refine (Zj (m := 1) (l := [vi a]) (by omega) (K1.bE ok oP) rfl (by decide) Zm rfl).2 ?_
 have fin : ∀ h' : AH, (∃ lo hi ty c, h'.ob.get h.nx = some (.cells lo hi ty true c) ∧ lo ≤ 0 ∧ n ≤ hi) → cU h h' → h'.Ok → h'.bE h.nx 0 (List.replicate n (vi a)) → h.nx < h'.nx → Q (.ret (dL h.nx 0 n n)) h' := by
  rintro h' ⟨lo, hi, ty, c, q1, q2, q3⟩ K od hr bC
  have QK : ∀ k : Nat, (List.replicate k [vi a]).flatten = List.replicate k (vi a) := fun k => by
   induction k with
   | zero => rfl
   | succ k ih => rw [List.replicate_succ, List.flatten_cons, ih]; rfl
  have QK := QK n
  refine H g h' _ (List.replicate n [vi a]) (S.add _ od K.nx K.get ?_ ud (fun b hb => by simp [Ob.bz, ec] at hb; subst hb; exact ⟨bC, Nat.le_refl _⟩)) (aM.Xy (show rI .i64 g [vi a] a from rfl) n)
  exact .kn h.nx 0 n n lo hi ty c _ (by simp) (Nat.le_refl _) (by unfold aT; omega) q1 q2 (by simpa using q3) (by rw [QK]; exact hr) (fun x hx => by rw [(List.mem_replicate.1 hx).2]; rfl)
 have ok1 : (h.new 3 (List.replicate n (vi 0))).Ok := AH.sd ok _ _
 refine VV (fun v h' => ∃ y : Nat, v = vi y ∧ 1 ≤ y ∧ y ≤ n ∧ cU h h' ∧ h'.Ok ∧ h'.can h.nx 0 n ∧ h'.bE h.nx 0 (List.replicate y (vi a)) ∧ h.nx < h'.nx) (fun v _ => match v with | .int _ q => (n - q).toNat | _ => 0) ?_ ?_
 · rintro v h' k ⟨y, rfl, GR, hyn, K, od, hc, hr, bC⟩ hk
   unfold Rv
   refine M8.2 ?_
   refine jf.2 ?_
   by_cases Ww : y < n
   · rw [decide_eq_true (show (y : Int) < (n : Int) by omega)]
     refine yT ?_
     unfold Ru
     have cap : OE 1 n n := ⟨by unfold aT; omega, .inl ⟨Nat.le_refl _, by unfold aT; omega⟩⟩
     refine HB (k1 := .i64) (k2 := .i64) (i := y) (j := n) cap hyn (Nat.le_refl _) true false (by simp) (by simp) rfl ?_
     refine HB (k1 := .i64) (k2 := .i64) (i := 0) (j := y) cap (by omega) (by omega) false true (by simp) (by simp) rfl ?_
     have e1 : qS 1 (dL h.nx 0 n n) y n = dL h.nx y (n - y) (n - y) := by
      show (if n < aT then (if n = y then Value.slice (some ⟨h.nx, 0, none⟩) (n - y) 0 else Value.slice (some ⟨h.nx, 0 + y * 1, none⟩) (n - y) (n - y)) else Value.slice (some ⟨h.nx, 0 + y * 1, none⟩) (n - y) n) = _
      rw [if_pos (by unfold aT; omega), if_neg (by omega), Nat.zero_add, Nat.mul_one]
     have e2 : qS 1 (dL h.nx 0 n n) 0 y = dL h.nx 0 y n := by
      show (if n < aT then (if n = 0 then Value.slice (some ⟨h.nx, 0, none⟩) (y - 0) 0 else Value.slice (some ⟨h.nx, 0 + 0 * 1, none⟩) (y - 0) (n - 0)) else Value.slice (some ⟨h.nx, 0 + 0 * 1, none⟩) (y - 0) n) = _
      rw [if_pos (by unfold aT; omega), if_neg (by omega)]
      simp
     rw [e1, e2]
     have hm : min y (n - y) ≤ y := Nat.min_le_left _ _
     have vE : min y (n - y) ≤ n - y := Nat.min_le_right _ _
     have hm3 : 1 ≤ min y (n - y) := by omega
     generalize Bm : min y (n - y) = m at hm vE hm3
     have mM : h'.bE h.nx 0 (List.replicate m (vi a)) := fun i v hv => hr i v (by
      have hi := (List.getElem?_eq_some_iff.1 hv).1
      rw [List.length_replicate] at hi
      rw [List.getElem?_replicate] at hv ⊢
      rw [if_pos (by omega)] at hv ⊢; exact hv)
     have fk : h'.can h.nx y (List.replicate m (vi a)).length := by
      obtain ⟨lo, hi, ty, c, q1, q2, q3⟩ := hc
      exact ⟨lo, hi, ty, c, q1, by omega, by rw [List.length_replicate]; omega⟩
     refine (Zj (m := m) (l := List.replicate m (vi a)) Bm.symm mM (by simp) (by omega) fk (eO m a)).2 ?_
     refine ⟨Gi.2 Hj, ?_⟩
     refine iw.2 ?_
     rw [jW (by omega) (by omega)]
     refine hk _ _ ⟨y + m, by simp, by omega, by omega, K.wr (Nat.le_refl _) _ _, AH.se od _ _ _, AH.Gd hc, fun i v hv => ?_, by rw [AH.lh]; exact bC⟩ ?_
     · have hi := (List.getElem?_eq_some_iff.1 hv).1
       rw [List.length_replicate] at hi
       rw [List.getElem?_replicate, if_pos hi] at hv
       cases hv
       rw [AH.tL fk (Nat.le_refl _), Nat.zero_add]
       by_cases hiy : i < y
       · rw [if_neg (by omega)]
         have := hr i (vi a) (by rw [List.getElem?_replicate, if_pos hiy])
         rwa [Nat.zero_add] at this
       · rw [if_pos ⟨rfl, by omega, by rw [List.length_replicate]; omega⟩, List.getElem?_replicate, if_pos (by omega)]
     · show ((n : Int) - ((y : Int) + (m : Int))).toNat < ((n : Int) - (y : Int)).toNat
       omega
   · rw [decide_eq_false (show ¬ (y : Int) < (n : Int) by omega)]
     refine oi ?_
     unfold Rs
     have e : y = n := by omega
     subst e
     obtain ⟨lo, hi, ty, c, q1, q2, q3⟩ := hc
     exact fin h' ⟨lo, hi, ty, c, q1, q2, by omega⟩ K od hr bC
 · refine ⟨1, rfl, Nat.le_refl _, by omega, K1.wr (Nat.le_refl _) _ _, AH.se ok1 _ _ _, AH.Gd fE, fun i v hv => ?_, by rw [AH.lh]; exact Nat.lt_succ_self _⟩
   have hi := (List.getElem?_eq_some_iff.1 hv).1
   rw [List.length_replicate] at hi
   have oh : i = 0 := by omega
   subst oh
   cases hv
   rw [AH.tL (n := 1) Zm (by simp), if_pos ⟨rfl, by omega, by simp⟩]; rfl
abbrev Zn : Int × Int → List Value := fun p => [vi p.1, vi p.2]
def sM (N : Nat) (x0 : ag) (x1 : Int) : Option (List (Int × Int)) :=
 (ix x0.aa x1).bind fun i =>
 (wH N i).bind fun ps =>
 gu (decide (ps.length ≤ 1000)) (
 (zj N x0 x1).bind fun q =>
 let l := (bif !(iV i.aJ).kC && decide (bf .i64 (x1 + 1) < (x0.aa.length : Int)) then [(bf .i64 (x1 + 1), 0)] else []) ++ ps.map (fun p => (p, 1))
 bif (iV i.aJ).ll && decide (0 ≤ q) then (ix x0.aB q).bind fun d => some (l ++ [(d.dM, 2)]) else some l)
abbrev IB (u : ag) (w1 w2 : Value) : List Value := [.string u.aO, .string u.aP, vi u.fArgs, vi u.aK, vi u.aL, w1, w2]
theorem akO (N : Nat) (u : ag) (at_ : Int) (w1 w2 : Value) (bu ba : Nat) {l : List (Int × Int)} (r1 : g.bE bu 0 (IB u w1 w2)) (r2 : g.bE ba 0 [vi at_]) (F1 : ae aq.rep 4 g w1 u.aa) (F2 : ae aE.rep 3 g w2 u.aB) (M : sM N u at_ = some l) :
 qV PP w0 g (.func (.func D3) ⟨[]⟩ ⟨[al bu 0, al ba 0]⟩) Zn l := by
 refine ⟨rfl, _, [], [al bu 0, al ba 0], rfl, fun yv Inv Stop Q g1 h wX hK hI step I0 fin stop => ?_⟩
 unfold sM at M
 obtain ⟨i, hi, M⟩ := bind_some M
 obtain ⟨ps, eZ, M⟩ := bind_some M
 obtain ⟨akP, M⟩ := qQ M
 rw [decide_eq_true_eq] at akP
 obtain ⟨q, hq, M⟩ := bind_some M
 have r1 := wX.bE r1
 have r2 := wX.bE r2
 have F1 := F1.mono aq.mono wX
 have F2 := F2.mono aE.mono wX
 clear wX
 generalize g1 = g at *
 show WF PP w0 D3 [yv, al bu 0, al ba 0] h Q
 have go : ∀ {g h : AH} {k : Nat}, Inv k g h → Sep ⟨g, h, []⟩ g h [] := fun hh => Sep.start (hI _ _ _ hh).1 (hI _ _ _ hh).2
 refine aab _ _ _ ?_
 unfold Rm
 have S := go I0
 refine cr.2 ?_
 refine S.gr (r1 5 _ rfl) ?_
 refine S.gr (r2 0 _ rfl) ?_
 refine ae.idx F1 hi (fun b o vs E rr rp => ?_)
 cases rp
 refine S.ua rr rfl (by decide) ?_
 refine S.alloc (l := [vi 0, vi 0, vi 0, vi 0]) rfl (fun b6 h S => ?_)
 refine S.cv [vi i.aJ, vi i.fA, vi i.fB, vi i.fC] [vi i.aJ, vi i.fA, vi i.fB, vi i.fC] rfl rfl rfl (Nat.le_of_ble_eq_true rfl) rfl (fun h S => ?_)
 refine cr.2 ?_
 refine S.bj 0 rfl rfl ?_
 refine HM (M := rfl) (sg := S.sub) (ok := S.ok) (H := fun _ h S1 => ?_)
 have S := S.eo S1
 refine (gT rfl).2 ?_
 refine (gT rfl).2 ?_
 generalize hf : iV i.aJ = f at *
 refine S.alloc (l := [.string ⟨⟨[]⟩⟩, vi 0, vi 0, vi 0, vi 0, vi 0, vi 0, .bool false, .bool false]) rfl (fun Zo h S => ?_)
 refine S.cv f.cells f.cells rfl rfl rfl (Nat.le_of_ble_eq_true rfl) rfl (fun h S => ?_)
 obtain ⟨g2, sg, S, zA⟩ := S.yR
 obtain ⟨g3, zB, S, r6⟩ := S.yR
 have I1 := hK _ _ _ _ _ I0 S
 have zA := zB.bE zA
 have sg := sg.trans zB
 have r1 := sg.bE r1
 have r2 := sg.bE r2
 have F1 := F1.mono aq.mono sg
 have F2 := F2.mono aE.mono sg
 have fin : ∀ v g' h', Sub g3 g' → Inv l.length g' h' → Q (.ret v) h' := fun v g' h' s => fin v g' h' (sg.trans s)
 clear I0 S S1 sg zB
 have last : ∀ (g h : AH) (l0 : List (Int × Int)), Sub g3 g → Inv l0.length g h → (bif f.ll && decide (0 ≤ q) then (ix u.aB q).bind fun d => some (l0 ++ [(d.dM, 2)]) else some l0) = some l →
  IZ w0 (fun v h => Q (.aQ v) h) (fun v h => Q (.ret v) h) (al bu 0) (al ba 0) (al Zo 0) yv h := by
  intro g h l0 s3 Ik M
  have S0 := go Ik
  have r1 := s3.bE r1
  have zA := s3.bE zA
  have F2 := F2.mono aE.mono s3
  unfold IZ
  refine S0.ua (l := IB u w1 w2) r1 rfl (by decide) ?_
  refine S0.gr (s3.bE r2 0 _ rfl) ?_
  refine Yh hq S0.sub S0.ok (F1.mono aq.mono s3) F2 (fun _ h1 S1 => ?_)
  have S2 := S0.eo S1
  have Ik := hK _ _ _ _ _ Ik S2
  refine cr.2 ?_
  refine S2.gr (zA 7 _ rfl) ?_
  cases hr : f.ll with
  | false =>
   rw [hr] at M
   cases M
   refine aI (by decide) ?_
   refine aI (by decide) ?_
   refine bB.2 ?_
   unfold IY
   refine oi ?_
   exact fin _ _ _ s3 Ik
  | true =>
   rw [hr, Bool.true_and] at M
   refine aH rfl ?_
   refine aH rfl ?_
   refine qo.2 ?_
   refine bB.2 ?_
   unfold IY
   cases h0 : decide (0 ≤ q) with
   | false =>
    rw [h0] at M
    cases M
    refine oi ?_
    exact fin _ _ _ s3 Ik
   | true =>
    rw [h0] at M
    obtain ⟨d, hd, M⟩ := bind_some (aV rfl M)
    cases M
    refine yT ?_
    refine cr.2 ?_
    refine S2.gr (r1 6 _ rfl) ?_
    refine ae.idx F2 hd (fun b o vs E rr rp => ?_)
    cases rp
    refine cr.2 ?_
    refine S2.gr (rr 2 _ rfl) ?_
    refine step l0.length (d.dM, 2) g h1 _ _ (by simp) Ik (fun g2 h2 sb I2 => ?_) (fun h2 s2 => stop _ _ s2)
    refine fin _ _ _ (s3.trans sb) ?_
    simpa using I2
 have mid : ∀ (g h : AH) (l0 : List (Int × Int)), Sub g3 g → Inv l0.length g h → (bif f.ll && decide (0 ≤ q) then (ix u.aB q).bind fun d => some (l0 ++ ps.map (fun p => (p, 1)) ++ [(d.dM, 2)]) else some (l0 ++ ps.map (fun p => (p, 1)))) = some l →
  I3 w0 (fun v h => Q (.aQ v) h) (fun v h => Q (.ret v) h) (al b6 0) yv (al bu 0) (al ba 0) (al Zo 0) h := by
  intro g h l0 s3 Ik M
  have S0 := go Ik
  have pre : ∃ m, l = l0 ++ ps.map (fun p => (p, 1)) ++ m := by
   cases hc : f.ll && decide (0 ≤ q) with
   | true => rw [hc] at M; obtain ⟨d, _, M⟩ := bind_some (aV rfl M); cases M; exact ⟨_, rfl⟩
   | false => rw [hc] at M; cases M; exact ⟨[], by simp⟩
  obtain ⟨m, hl⟩ := pre
  have akQ : ∀ k p, ps[k]? = some p → l[l0.length + k]? = some (p, 1) := fun k p hp => by
   have hk : k < ps.length := (List.getElem?_eq_some_iff.1 hp).1
   rw [hl, List.getElem?_append_left (by simp; omega), List.getElem?_append_right (by omega), Nat.add_sub_cancel_left, List.getElem?_map, hp]; rfl
  unfold I3
  refine S0.ua (l := [vi i.aJ, vi i.fA, vi i.fB, vi i.fC]) (s3.bE r6) rfl (by decide) ?_
  refine X4 eZ S0.sub S0.ok (fun g1 h1 v30 S1 F3 => ?_)
  have S2 := S0.call S1
  have Ik := hK _ _ _ _ _ Ik S2
  refine F3.len ?_
  refine VV (fun v h' => ∃ (k : Nat) (g' : AH), v = vi k ∧ k ≤ ps.length ∧ Sub g1 g' ∧ Inv (l0.length + k) g' h') (fun v _ => match v with | .int _ n => (ps.length - n).toNat | _ => 0) ?_ ⟨0, g1, rfl, Nat.zero_le _, .refl _, Ik⟩
  rintro v h' kk ⟨k, g', rfl, hk, sb, Ik⟩ hkk
  unfold Rl
  refine jf.2 ?_
  by_cases bC : k < ps.length
  · rw [decide_eq_true (show (k : Int) < (ps.length : Int) by omega)]
    refine yT ?_
    unfold Rk
    have F3' := F3.mono (fG .i64) sb
    refine ae.idx F3' (x := ps[k]) (by rw [iy]; exact List.getElem?_eq_getElem bC) (fun b o vs E rr rp => ?_)
    cases rp
    have S3 := go Ik
    refine S3.gr (rr 0 _ rfl) ?_
    refine step (l0.length + k) (ps[k], 1) g' h' _ _ (akQ k _ (List.getElem?_eq_getElem bC)) Ik (fun g2 h2 QL I2 => ?_) (fun h2 s2 => ?_)
    · refine fy.2 ?_
      refine oi ?_
      unfold Rj
      refine iw.2 ?_
      rw [jW (by omega) (by omega)]
      refine hkk _ _ ⟨k + 1, g2, by simp, bC, sb.trans QL, by rw [← Nat.add_assoc]; exact I2⟩ ?_
      show ((ps.length : Int) - ((k : Int) + 1)).toNat < ((ps.length : Int) - (k : Int)).toNat
      omega
    · refine fy.2 ?_
      refine yT ?_
      exact stop _ _ s2
  · rw [decide_eq_false (show ¬ (k : Int) < (ps.length : Int) by omega)]
    refine oi ?_
    have e : k = ps.length := by omega
    subst e
    refine last g' h' (l0 ++ ps.map (fun p => (p, 1))) ((s3.trans S1.bQ).trans sb) ?_ M
    simpa using Ik
 refine cr.2 ?_
 have S := go I1
 refine S.gr (zA 8 _ rfl) ?_
 refine fy.2 ?_
 cases he : f.kC with
 | true =>
  rw [he] at M
  refine aI (by decide) ?_
  refine aI (by decide) ?_
  refine aI (by decide) ?_
  refine aI (by decide) ?_
  refine aI (by decide) ?_
  refine aI (by decide) ?_
  refine bB.2 ?_
  unfold I4
  refine aI (by decide) ?_
  refine aI (by decide) ?_
  refine aI (by decide) ?_
  refine aI (by decide) ?_
  refine aI (by decide) ?_
  refine bB.2 ?_
  unfold zK
  refine oi ?_
  exact mid g3 h [] (.refl _) I1 M
 | false =>
  rw [he] at M
  refine aH rfl ?_
  refine S.gr (r2 0 _ rfl) ?_
  refine aH rfl ?_
  refine iw.2 ?_
  refine aH rfl ?_
  refine cr.2 ?_
  refine aH rfl ?_
  refine S.gr (r1 5 _ rfl) ?_
  refine aH rfl ?_
  refine F1.len ?_
  refine aH rfl ?_
  refine jf.2 ?_
  refine bB.2 ?_
  unfold I4
  cases hn : decide (bf .i64 (at_ + 1) < (u.aa.length : Int)) with
  | false =>
   rw [hn] at M
   refine aI (by decide) ?_
   refine aI (by decide) ?_
   refine aI (by decide) ?_
   refine aI (by decide) ?_
   refine aI (by decide) ?_
   refine bB.2 ?_
   unfold zK
   refine oi ?_
   exact mid g3 h [] (.refl _) I1 M
  | true =>
   rw [hn] at M
   refine aH rfl ?_
   refine aH rfl ?_
   refine S.gr (r2 0 _ rfl) ?_
   refine aH rfl ?_
   refine iw.2 ?_
   refine aH rfl ?_
   have h0 : l[0]? = some (bf .i64 (at_ + 1), 0) := by
    cases hc : f.ll && decide (0 ≤ q) with
    | true => rw [hc] at M; obtain ⟨d, _, M⟩ := bind_some (aV rfl M); cases M; rfl
    | false => rw [hc] at M; cases M; rfl
   refine step 0 (bf .i64 (at_ + 1), 0) g3 h _ _ h0 I1 (fun g2 h2 QL I2 => ?_) (fun h2 s2 => ?_)
   · refine aH rfl ?_
     refine fy.2 ?_
     refine bB.2 ?_
     unfold zK
     refine oi ?_
     exact mid g2 h2 [(bf .i64 (at_ + 1), 0)] QL I2 M
   · refine aH rfl ?_
     refine fy.2 ?_
     refine bB.2 ?_
     unfold zK
     refine yT ?_
     exact stop _ _ s2
theorem Ih {r : List (Int × Int)} (N : Nat) (x0 : ag) (x1 : Int) (cx cy : Value) (sg : Sub g h) (ok : h.Ok) (cu : ae aq.rep 4 g cx x0.aa) (cD : ae aE.rep 3 g cy x0.aB) (M : sM N x0 x1 = some r)
 (H : ∀ (g' h' : AH) (w1 : Value), Sep ⟨g, h, []⟩ g' h' [] → qV PP w0 g' w1 Zn r → Q (.ret w1) h') : WF PP w0 w7 [.agg ⟨IB x0 cx cy⟩, vi x1] h Q := by
 have S := Sep.start sg ok
 refine aad _ _ ?_
 unfold Rn
 refine S.box (IB x0 cx cy) rfl (ab rfl (ab rfl (ab rfl (ab rfl (ab rfl (ab cu.one (ab cD.one rfl))))))) (fun b1 h S => ?_)
 refine S.box [vi x1] rfl rfl (fun b2 h S => ?_)
 refine (Gq (by simp)).2 ?_
 obtain ⟨g2, Hy, S, r2⟩ := S.yR
 obtain ⟨g3, Zp, S, r1⟩ := S.yR
 have zB := Hy.trans Zp
 exact H g3 h _ S (akO N x0 x1 cx cy b1 b2 r1 (Zp.bE r2) (cu.mono aq.mono zB) (cD.mono aE.mono zB) M)
end
end
end Go.Ve.T
namespace Go.Ve.T
open Go.Ve Go.Proofs
noncomputable section
set_option maxRecDepth 10000
def lq (w0 : World) (g : AH) (fv : Value) (f : Int → Int → Int → Option Bool) : Prop := eH fv = true ∧ ∀ (a0 : Int) (a1 : Int) (a2 : Int) (r : Bool) (E K : Value → W) (g2 h2 : AH), Sub g g2 → Sub g2 h2 → h2.Ok → f a0 a1 a2 = some r → (∀ (g' h' : AH), Sep ⟨g2, h2, []⟩ g' h' [] → K (.bool r) h') → dy PP w0 [fv, (vi a0), (vi a1), (vi a2)] E K h2
theorem lq.mono {w0 : World} {g g' : AH} {fv : Value} {f : Int → Int → Int → Option Bool} (H : lq w0 g fv f) (S : Sub g g') : lq w0 g' fv f := ⟨H.1, fun a0 a1 a2 r E K g2 h2 s1 => H.2 a0 a1 a2 r E K g2 h2 (Sub.trans S s1)⟩
def CZ {ρ : Type} (N : Nat) (v9 : List Int) (bU : Int) (gJ : Int) (bY : List Int) (j0 : Int) (ey : ag) (C0 : List Int) (zo : Bool) (dh : Fl → (List Int) → (List Int) → Bool → (List Int) → Option (ρ)) : Option (ρ) :=
(ix v9 bU).bind fun q9 =>
 bif (decide (q9 < 0)) then (
(ix v9 bU).bind fun C1 =>
 gu (decide (bY.length + [bU].length ≤ 1048576)) (
 dh .go (v9.set bU.toNat gJ) C0 zo (bY ++ [bU]))) else (
 dh .go v9 C0 zo bY)
def zp {ρ : Type} (N : Nat) (v9 : List Int) (bU : Int) (v2 : List Int) (v3 : Bool) (bY : List Int) (gJ : Int) (j0 : Int) (ey : ag) (dh : Fl → (List Int) → (List Int) → Bool → (List Int) → Option (ρ)) : Option (ρ) :=
(om gJ 0 40).bind fun P1 =>
 bif (!P1) then (
 dh .ret v9 ([] : List Int) false bY) else (
(ix v9 bU).bind fun wM =>
 bif (decide (0 ≤ wM)) then (
(ix v9 bU).bind fun zq =>
 bif (!decide (zq = gJ)) then (
 dh .ret v9 ([] : List Int) false bY) else (
 CZ N v9 bU gJ bY j0 ey v2 v3 dh)) else (
 CZ N v9 bU gJ bY j0 ey v2 v3 dh))
def pA {ρ : Type} (N : Nat) (v9 : List Int) (v37 : Int) (v1 : ag) (v2 : List Int) (v3 : Bool) (bY : List Int) (bU : Int) (kN : Int) (dh : Fl → (List Int) → (List Int) → Bool → (List Int) → Option ρ) : Option ρ :=
(ix v9 v37).bind fun qP =>
(ix v1.aa v37).bind fun Yw =>
(CK Yw kN).bind fun Yx =>
 bif (decide (kN = 2)) then (
 zp N v9 bU v2 v3 bY 0 v37 v1 dh) else (
 zp N v9 bU v2 v3 bY (bf .i64 (qP + Yx)) v37 v1 dh)
def C2 (N : Nat) (bY : List Int) (mr : ag) (Ia : List Int) (Ib : List Int) (Ic : Bool) (mu : (List Int) → (List Int) → (List Int) → Bool → Option ((List Int) × Bool)) : Option ((List Int) × Bool) :=
(sE bY 1 (bY.length : Int)).bind fun Yy =>
 mu Yy Ia Ib Ic
def C3 (N : Nat) (bY : List Int) (v1 : ag) (v9 : List Int) (v2 : List Int) (v3 : Bool) (mu : (List Int) → (List Int) → (List Int) → Bool → Option ((List Int) × Bool)) : Option ((List Int) × Bool) :=
(ix bY 0).bind fun nr =>
(sM N v1 nr).bind fun sB =>
(kv (fun (s : (List Int) × (List Int) × Bool × (List Int)) (x : Int × Int) => pA N s.1 nr v1 s.2.1 s.2.2.1 s.2.2.2 x.1 x.2 (fun f m0 m1 m2 m3 => some ((m0, m1, m2, m3), f))) sB (v9, v2, v3, bY)).bind fun kF =>
 ui kF.2 (
 C2 N kF.1.2.2.2 v1 kF.1.1 kF.1.2.1 kF.1.2.2.1 mu) (
 some (kF.1.2.1, kF.1.2.2.1)) (fun _ => none)
def P3 (N : Nat) (v9 : List Int) (v2 : List Int) (v3 : Bool)  : Option ((List Int) × Bool) :=
 some (v9, true)
def P7 (N : Nat) (v1 : ag) (v9 : List Int) (v2 : List Int) (v3 : Bool) (bY : List Int) (mu : (List Int) → (List Int) → (List Int) → Bool → Option ((List Int) × Bool)) : Option ((List Int) × Bool) :=
 bif (decide (0 < (bY.length : Int))) then (
 C3 N bY v1 v9 v2 v3 mu) else (
 P3 N v9 v2 v3)
def sN (N : Nat) (v1 : ag)  : Nat → (List Int) → (List Int) → Bool → (List Int) → Option ((List Int) × Bool)
 | 0, _, _, _, _ => none
 | n + 1, v9, v2, v3, bY => P7 N v1 v9 v2 v3 bY  (fun av dJ lP fT => sN N v1 n dJ lP fT av)
def wN (N : Nat) (x0 : ag) : Option ((List Int) × Bool) :=
(Ie [(-1)] (x0.aa.length : Int)).bind fun eT =>
(ix eT 0).bind fun Ig =>
 sN N x0 N (eT.set (0 : Int).toNat 0) ([] : List Int) false [0]
abbrev zr (c : Cx) (R : Value → W) (r : (List Int) × Bool) : Prop := ∀ (g' h' : AH) (w1 : Value), Sep c g' h' [] → ae (rI .i64) 1 g' w1 r.1 → R (.tuple ⟨[w1, (.bool r.2)]⟩) h'
theorem Yz {ρ : Type} {w0 : World} {c : Cx} {g h : AH} {E R : Value → W} {r : ρ} {N : Nat} {v9 : List Int} {bU gJ : Int} {bY : List Int} {j0 : Int} {ey : ag} {C0 : List Int} {zo : Bool} {fU : Nat} {dc : Value} {fJ : List (List Value)} {fV : Nat} {ft : Value} {fK : List (List Value)} {nu : Nat} {nv : LO} {re : List Nat} {rf zt : Nat} {uz uA : Value} {P8 : Nat} {P9 : Value} {Qa : Nat} {dh : Fl → (List Int) → (List Int) → Bool → (List Int) → Option (ρ)} {ji : AH} (M : CZ N v9 bU gJ bY j0 ey C0 zo dh = some r) (S : Sep c g h [.bx fU [dc], .sl 3 1 dc fJ, .bx fV [ft], .sl 3 1 ft fK, .lp nu nv .busy none, .ds re, .bx rf [(vi j0)], .bx zt [(.string ey.aO), (.string ey.aP), (vi ey.fArgs), (vi ey.aK), (vi ey.aL), uz, uA], .bx P8 [P9], .bx Qa [(.bool zo)]]) (fW : aM ((rI .i64) g) fJ v9) (gH : aM ((rI .i64) g) fK bY) (Qb : ae aq.rep 4 g uz ey.aa) (Qc : ae aE.rep 3 g uA ey.aB) (YA : ae (rI .i64) 1 g P9 C0) (iz : Sub ji g) (iA : ∀ {f : Fl} {pB : List Int} {pC : Value} {pD : List (List Value)} {uB : List Int} {uC : Value} {mv : Bool} {uD : List Int} {uE : Value} {uF : List (List Value)} {g2 h2 : AH}, dh f pB uB mv uD = some r → Sub ji g2 → Sep c g2 h2 [.lp nu nv f.st f.pd, .ds re, .bx fU [pC], .sl 3 1 pC pD, .bx rf [(vi j0)], .bx zt [(.string ey.aO), (.string ey.aP), (vi ey.fArgs), (vi ey.aK), (vi ey.aL), uz, uA], .bx P8 [uC], .bx Qa [(.bool mv)], .bx fV [uE], .sl 3 1 uE uF] → aM ((rI .i64) g2) pD pB → ae (rI .i64) 1 g2 uC uB → aM ((rI .i64) g2) uF uD → R (.bool f.on) h2) (H : True) : D7 w0 E R (al fU 0) (vi bU) (vi gJ) (al fV 0) nv nu h := by
 unfold D7
 unfold CZ at M
 refine S.bj 0 rfl rfl ?_
 obtain ⟨q9, aiO, M⟩ := bind_some M
 refine S.og 1 rfl fW aiO (fun amt amu vs aiP aiQ rp => ?_)
 cases rp
 refine S.uc (j := 0) 1 rfl aiP aiQ rfl ?_
 refine jf.2 ?_
 refine bK (fun hc => ?_) (fun hc => ?_)
 · have M := aV hc M
   refine S.bj 0 rfl rfl ?_
   obtain ⟨C1, aiR, M⟩ := bind_some M
   refine S.og 1 rfl fW aiR (fun amv amw vs aiS aiT rp => ?_)
   cases rp
   have S := S.f1
   refine S.HA (j := 0) [(vi gJ)] aiS aiT rfl rfl (ab rfl rfl) (by decide) (fun h S => ?_)
   have aiU : aM ((rI .i64) g) (fJ.set bU.toNat [(vi gJ)]) (v9.set bU.toNat gJ) := aM.set fW (show (rI .i64) g [(vi gJ)] gJ from rfl) bU.toNat
   have S : Sep _ g h [.sl 3 1 dc (fJ.set bU.toNat [(vi gJ)]), .bx fU [dc], .bx fV [ft], .sl 3 1 ft fK, .lp nu nv .busy none, .ds re, .bx rf [(vi j0)], .bx zt [(.string ey.aO), (.string ey.aP), (vi ey.fArgs), (vi ey.aK), (vi ey.aL), uz, uA], .bx P8 [P9], .bx Qa [(.bool zo)]] := S
   refine S.bj 2 rfl rfl ?_
   refine S.ue [[(vi bU)]] (cJ (m := [(vi bU)]) (l2 := [(vi bU)]) rfl rfl (Nat.le_of_ble_eq_true rfl) rfl rfl) rfl (by decide) (uh rfl ug) (ab rfl rfl) (fun amx h S => ?_)
   have Qd : aM ((rI .i64) g) [[(vi bU)]] [bU] := (aM.push aM.nil (show (rI .i64) g [(vi bU)] bU from rfl))
   have S := S.f4
   obtain ⟨aiV, M⟩ := qQ M
   refine S.app (S.rd 1 rfl) (by rw [gH.1, Qd.1]; exact aiV) (by decide) rfl (qU (qT .i64) Qd) (qU (qT .i64) gH) (fun YB h S => ?_)
   have aiW : aM ((rI .i64) g) (fK ++ [[(vi bU)]]) (bY ++ [bU]) := aM.append gH Qd
   have S := S.f4
   refine S.cv [YB] [YB] (lj (S.gX 1 rfl)) rfl (ab (S.gX 1 rfl) rfl) (Nat.le_of_ble_eq_true rfl) rfl (fun h S => ?_)
   have S := S.f5
   refine S.ga (fun h S => ?_)
   have S := S.f2
   have S := S.f2
   have S := S.f10
   have S := S.f10
   have S := S.f10
   have S := S.f10
   have S := S.f8
   have S := S.f9
   have S := S.f10
   have S := S.f9
   have S := S.t10
   exact iA M iz S aiU YA aiW
 · have M := aX hc M
   have S := S.f4
   refine S.ga (fun h S => ?_)
   have S := S.f4
   have S := S.f4
   have S := S.f9
   have S := S.f9
   have S := S.f9
   have S := S.f9
   have S := S.f8
   have S := S.f8
   have S := S.f9
   have S := S.f9
   exact iA M iz S fW YA gH
theorem YC {ρ : Type} {w0 : World} {c : Cx} {g h : AH} {E R : Value → W} {r : ρ} {N : Nat} {v9 : List Int} {bU : Int} {v2 : List Int} {v3 : Bool} {bY : List Int} {gJ j0 : Int} {ey : ag} {fU : Nat} {dc : Value} {fJ : List (List Value)} {dO : Nat} {dK : Value} {cX fV : Nat} {ft : Value} {fK : List (List Value)} {nu : Nat} {nv : LO} {re : List Nat} {rf zt : Nat} {uz uA : Value} {dh : Fl → (List Int) → (List Int) → Bool → (List Int) → Option (ρ)} {ji : AH} (M : zp N v9 bU v2 v3 bY gJ j0 ey dh = some r) (S : Sep c g h [.bx fU [dc], .sl 3 1 dc fJ, .bx dO [dK], .bx cX [(.bool v3)], .bx fV [ft], .sl 3 1 ft fK, .lp nu nv .busy none, .ds re, .bx rf [(vi j0)], .bx zt [(.string ey.aO), (.string ey.aP), (vi ey.fArgs), (vi ey.aK), (vi ey.aL), uz, uA]]) (fW : aM ((rI .i64) g) fJ v9) (fu : ae (rI .i64) 1 g dK v2) (gH : aM ((rI .i64) g) fK bY) (Qb : ae aq.rep 4 g uz ey.aa) (Qc : ae aE.rep 3 g uA ey.aB) (iz : Sub ji g) (iA : ∀ {f : Fl} {pB : List Int} {pC : Value} {pD : List (List Value)} {uB : List Int} {uC : Value} {mv : Bool} {uD : List Int} {uE : Value} {uF : List (List Value)} {g2 h2 : AH}, dh f pB uB mv uD = some r → Sub ji g2 → Sep c g2 h2 [.lp nu nv f.st f.pd, .ds re, .bx fU [pC], .sl 3 1 pC pD, .bx rf [(vi j0)], .bx zt [(.string ey.aO), (.string ey.aP), (vi ey.fArgs), (vi ey.aK), (vi ey.aL), uz, uA], .bx dO [uC], .bx cX [(.bool mv)], .bx fV [uE], .sl 3 1 uE uF] → aM ((rI .i64) g2) pD pB → ae (rI .i64) 1 g2 uC uB → aM ((rI .i64) g2) uF uD → R (.bool f.on) h2) (H : True) : zL w0 E R (al fU 0) (vi bU) (al dO 0) (al cX 0) nv nu (al fV 0) (vi gJ) h := by
 unfold zL
 unfold zp at M
 obtain ⟨P1, aiX, M⟩ := bind_some M
 refine uj aiX S.sub S.ok (fun _ h  S1  => ?_)
 have S := S.eo S1
 refine fy.2 ?_
 cases hc : (!P1)
 · have M := aX hc M
   refine aH rfl ?_
   refine S.bj 0 rfl rfl ?_
   refine aH rfl ?_
   refine aH rfl ?_
   obtain ⟨wM, aiY, M⟩ := bind_some M
   refine S.og 1 rfl fW aiY (fun amy amz vs aiZ ai0 rp => ?_)
   cases rp
   refine aH rfl ?_
   refine S.uc (j := 0) 1 rfl aiZ ai0 rfl ?_
   refine aH rfl ?_
   refine qo.2 ?_
   refine aH rfl ?_
   cases hc : (decide (0 ≤ wM))
   · have M := aX hc M
     refine aI (by decide) ?_
     refine aI (by decide) ?_
     refine aI (by decide) ?_
     refine aI (by decide) ?_
     refine aI (by decide) ?_
     refine aI (by decide) ?_
     refine aH rfl ?_
     refine bB.2 ?_
     refine bB.2 ?_
     refine oi ?_
     have S := S.f3
     have S := S.f3
     have S := S.f9
     have S := S.f9
     have S := S.f9
     have S := S.f9
     have S := S.f9
     have S := S.f9
     have S := S.f9
     have S := S.f9
     exact Yz M S fW gH Qb Qc fu iz iA trivial
   · have M := aV hc M
     refine aH rfl ?_
     refine S.bj 0 rfl rfl ?_
     refine aH rfl ?_
     refine aH rfl ?_
     obtain ⟨zq, ai1, M⟩ := bind_some M
     refine S.og 1 rfl fW ai1 (fun amA amB vs Xs ai2 rp => ?_)
     cases rp
     refine aH rfl ?_
     refine S.uc (j := 0) 1 rfl Xs ai2 rfl ?_
     refine aH rfl ?_
     refine aH rfl ?_
     refine tP.2 ?_
     refine aH rfl ?_
     refine bB.2 ?_
     refine bB.2 ?_
     refine bK (fun hc => ?_) (fun hc => ?_)
     · have M := aV hc M
       have S := S.f2
       refine S.cv [bN] [bN] (lj rfl) rfl (ab rfl rfl) (Nat.le_of_ble_eq_true rfl) rfl (fun h S => ?_)
       have S := S.f3
       refine S.cv [(.bool false)] [(.bool false)] rfl rfl (ab rfl rfl) (Nat.le_of_ble_eq_true rfl) rfl (fun h S => ?_)
       have S := S.f6
       refine S.ga (fun h S => ?_)
       have S := S.f6
       have S := S.f6
       have S := S.f3
       have S := S.f4
       have S := S.f9
       have S := S.f9
       have S := S.f8
       have S := S.f8
       have S := S.f9
       have S := S.f9
       exact iA M iz S fW ae.nil gH
     · have M := aX hc M
       have S := S.f3
       have S := S.f3
       have S := S.f9
       have S := S.f9
       have S := S.f9
       have S := S.f9
       have S := S.f9
       have S := S.f9
       have S := S.f9
       have S := S.f9
       exact Yz M S fW gH Qb Qc fu iz iA trivial
 · have M := aV hc M
   refine aI (by decide) ?_
   refine aI (by decide) ?_
   refine aI (by decide) ?_
   refine aI (by decide) ?_
   refine aI (by decide) ?_
   refine aI (by decide) ?_
   refine jg ?_
   refine jg ?_
   refine jg ?_
   refine jg ?_
   refine jg ?_
   refine jg ?_
   refine aI (by decide) ?_
   refine bB.2 ?_
   refine yT ?_
   have S := S.f2
   refine S.cv [bN] [bN] (lj rfl) rfl (ab rfl rfl) (Nat.le_of_ble_eq_true rfl) rfl (fun h S => ?_)
   have S := S.f3
   refine S.cv [(.bool false)] [(.bool false)] rfl rfl (ab rfl rfl) (Nat.le_of_ble_eq_true rfl) rfl (fun h S => ?_)
   have S := S.f6
   refine S.ga (fun h S => ?_)
   have S := S.f6
   have S := S.f6
   have S := S.f3
   have S := S.f4
   have S := S.f9
   have S := S.f9
   have S := S.f8
   have S := S.f8
   have S := S.f9
   have S := S.f9
   exact iA M iz S fW ae.nil gH
theorem ai3 {ρ : Type} {w0 : World} {c : Cx} {g h : AH} {E R : Value → W} {r : ρ} {N : Nat} {v9 : List Int} {v37 : Int} {v1 : ag} {v2 : List Int} {v3 : Bool} {bY : List Int} {bU kN : Int} {fU : Nat} {dc : Value} {fJ : List (List Value)} {Qe ar : Nat} {aw ax : Value} {dO : Nat} {dK : Value} {cX fV : Nat} {ft : Value} {fK : List (List Value)} {n_ : Nat} {o_ : LO} {d_ : List Nat} {dh : Fl → (List Int) → (List Int) → Bool → (List Int) → Option ρ} {ji : AH} (M : pA N v9 v37 v1 v2 v3 bY bU kN dh = some r) (S : Sep c g h [.lp n_ o_ .ready none, .ds d_, .bx fU [dc], .sl 3 1 dc fJ, .bx Qe [(vi v37)], .bx ar [(.string v1.aO), (.string v1.aP), (vi v1.fArgs), (vi v1.aK), (vi v1.aL), aw, ax], .bx dO [dK], .bx cX [(.bool v3)], .bx fV [ft], .sl 3 1 ft fK]) (fW : aM ((rI .i64) g) fJ v9) (aA : ae aq.rep 4 g aw v1.aa) (aG : ae aE.rep 3 g ax v1.aB) (fu : ae (rI .i64) 1 g dK v2) (gH : aM ((rI .i64) g) fK bY) (iz : Sub ji g) (iA : ∀ {f : Fl} {pB : List Int} {pC : Value} {pD : List (List Value)} {uB : List Int} {uC : Value} {mv : Bool} {uD : List Int} {uE : Value} {uF : List (List Value)} {g2 h2 : AH}, dh f pB uB mv uD = some r → Sub ji g2 → Sep c g2 h2 [.lp n_ o_ f.st f.pd, .ds d_, .bx fU [pC], .sl 3 1 pC pD, .bx Qe [(vi v37)], .bx ar [(.string v1.aO), (.string v1.aP), (vi v1.fArgs), (vi v1.aK), (vi v1.aL), aw, ax], .bx dO [uC], .bx cX [(.bool mv)], .bx fV [uE], .sl 3 1 uE uF] → aM ((rI .i64) g2) pD pB → ae (rI .i64) 1 g2 uC uB → aM ((rI .i64) g2) uF uD → R (.bool f.on) h2) : D8 w0 E R (al fU 0) (al Qe 0) (al ar 0) (al dO 0) (al cX 0) (al fV 0) o_ n_ (vi bU) (vi kN) h := by
 unfold D8
 unfold pA at M
 refine S.ox ?_
 refine S.lz (fun h S => ?_)
 refine S.bj 2 rfl rfl ?_
 refine S.bj 4 rfl rfl ?_
 obtain ⟨qP, yP, M⟩ := bind_some M
 refine S.og 3 rfl fW yP (fun agB agC vs Qf YD rp => ?_)
 cases rp
 refine S.uc (j := 0) 3 rfl Qf YD rfl ?_
 refine cr.2 ?_
 refine S.bj 5 rfl rfl ?_
 refine S.bj 4 rfl rfl ?_
 obtain ⟨Yw, ai4, M⟩ := bind_some M
 refine ae.idx aA ai4 (fun amC amD vs amE ai5 rp => ?_)
 cases rp
 refine S.ua ai5 rfl (by decide) ?_
 obtain ⟨Yx, ai6, M⟩ := bind_some M
 refine aio ai6 S.sub S.ok (fun _ h  S1  => ?_)
 have S := S.eo S1
 refine ⟨?_, ?_⟩
 · refine S.uc (j := 0) 3 rfl Qf YD rfl ?_
   exact Hj
 · refine ⟨?_, ?_⟩
   · exact S.ahl 3 rfl fW yP Qf
   · refine ⟨?_, ?_⟩
     · refine S.bj 4 rfl rfl ?_
       exact Hj
     · refine ⟨?_, ?_⟩
       · refine S.bj 2 rfl rfl ?_
         exact (S.rd 3 rfl).Hk
       · refine iw.2 ?_
         refine cg.2 ?_
         refine bK (fun hc => ?_) (fun hc => ?_)
         · have M := aV hc M
           have S := S.f5
           have S := S.f5
           have S := S.f3
           have S := S.f3
           have S := S.f9
           have S := S.f9
           have S := S.f9
           have S := S.f9
           have S := S.f9
           have S := S.f9
           exact YC M S fW fu gH aA aG iz iA trivial
         · have M := aX hc M
           have S := S.f5
           have S := S.f5
           have S := S.f3
           have S := S.f3
           have S := S.f9
           have S := S.f9
           have S := S.f9
           have S := S.f9
           have S := S.f9
           have S := S.f9
           exact YC M S fW fu gH aA aG iz iA trivial
theorem ai7 {w0 : World} {c : Cx} {g h : AH} {E R : Value → W} {r : (List Int) × Bool} {N : Nat} {bY : List Int} {mr : ag} {Ia Ib : List Int} {Ic : Bool} {fV : Nat} {ft : Value} {fK : List (List Value)} {d27 : List Nat} {YE : Nat} {Qg Qh : Value} {YF : Nat} {YG : Value} {YH : List (List Value)} {YI : Nat} {YJ : Value} {YK : Nat} {lV : Value → List Nat → W} {mu : (List Int) → (List Int) → (List Int) → Bool → Option ((List Int) × Bool)} {uG : AH} (M : C2 N bY mr Ia Ib Ic mu = some r) (S : Sep c g h [.bx fV [ft], .sl 3 1 ft fK, .ds d27, .bx YE [(.string mr.aO), (.string mr.aP), (vi mr.fArgs), (vi mr.aK), (vi mr.aL), Qg, Qh], .bx YF [YG], .sl 3 1 YG YH, .bx YI [YJ], .bx YK [(.bool Ic)]]) (gH : aM ((rI .i64) g) fK bY) (amF : ae aq.rep 4 g Qg mr.aa) (amG : ae aE.rep 3 g Qh mr.aB) (ai8 : aM ((rI .i64) g) YH Ia) (ai9 : ae (rI .i64) 1 g YJ Ib) (sO : Sub uG g) (C4 : ∀ {uH : Nat} {av : List Int} {kz : Value} {kA : List (List Value)} {aY : List Nat} {dJ : List Int} {uI : Value} {uJ : List (List Value)} {lP : List Int} {uK : Value} {fT : Bool} {g2 h2 : AH}, mu av dJ lP fT = some r → Sub uG g2 → Sep c g2 h2 [.bx YE [(.string mr.aO), (.string mr.aP), (vi mr.fArgs), (vi mr.aK), (vi mr.aL), Qg, Qh], .bx YF [uI], .sl 3 1 uI uJ, .bx YI [uK], .bx YK [(.bool fT)], .bx uH [kz], .sl 3 1 kz kA, .ds aY] → aM ((rI .i64) g2) kA av → aM ((rI .i64) g2) uJ dJ → ae (rI .i64) 1 g2 uK lP → lV (al uH 0) aY h2) (H : zr c R r) : D6 w0 E R (al fV 0) lV d27 h := by
 unfold D6
 unfold C2 at M
 refine S.bj 0 rfl rfl ?_
 refine S.alloc (l := [bN]) (ab rfl rfl) (fun amH h S => ?_)
 refine S.cv [ft] [ft] (lj (S.gX 2 rfl)) rfl (ab (S.gX 2 rfl) rfl) (Nat.le_of_ble_eq_true rfl) rfl (fun h S => ?_)
 refine S.bj 0 rfl rfl ?_
 have S := S.f2
 obtain ⟨Yy, aja, M⟩ := bind_some M
 refine S.ahr gH aja (fun YL amI S ajb => ?_)
 have S := S.f1
 refine S.cv [YL] [YL] (lj (S.gX 1 rfl)) rfl (ab (S.gX 1 rfl) rfl) (Nat.le_of_ble_eq_true rfl) rfl (fun h S => ?_)
 have S := S.f3
 have S := S.f2
 have S := S.f2
 have S := S.f8
 have S := S.f8
 have S := S.f8
 have S := S.f8
 have S := S.f8
 have S := S.t8
 exact C4 M sO S ajb ai8 ai9
theorem ajc {w0 : World} {c : Cx} {g h : AH} {E R : Value → W} {r : (List Int) × Bool} {N : Nat} {bY : List Int} {v1 : ag} {v9 v2 : List Int} {v3 : Bool} {fV : Nat} {ft : Value} {fK : List (List Value)} {ar : Nat} {aw ax : Value} {fU : Nat} {dc : Value} {fJ : List (List Value)} {dO : Nat} {dK : Value} {cX : Nat} {d26 : List Nat} {lV : Value → List Nat → W} {mu : (List Int) → (List Int) → (List Int) → Bool → Option ((List Int) × Bool)} {uG : AH} (M : C3 N bY v1 v9 v2 v3 mu = some r) (S : Sep c g h [.bx fV [ft], .sl 3 1 ft fK, .bx ar [(.string v1.aO), (.string v1.aP), (vi v1.fArgs), (vi v1.aK), (vi v1.aL), aw, ax], .bx fU [dc], .sl 3 1 dc fJ, .bx dO [dK], .bx cX [(.bool v3)], .ds d26]) (gH : aM ((rI .i64) g) fK bY) (aA : ae aq.rep 4 g aw v1.aa) (aG : ae aE.rep 3 g ax v1.aB) (fW : aM ((rI .i64) g) fJ v9) (fu : ae (rI .i64) 1 g dK v2) (sO : Sub uG g) (C4 : ∀ {uH : Nat} {av : List Int} {kz : Value} {kA : List (List Value)} {aY : List Nat} {dJ : List Int} {uI : Value} {uJ : List (List Value)} {lP : List Int} {uK : Value} {fT : Bool} {g2 h2 : AH}, mu av dJ lP fT = some r → Sub uG g2 → Sep c g2 h2 [.bx ar [(.string v1.aO), (.string v1.aP), (vi v1.fArgs), (vi v1.aK), (vi v1.aL), aw, ax], .bx fU [uI], .sl 3 1 uI uJ, .bx dO [uK], .bx cX [(.bool fT)], .bx uH [kz], .sl 3 1 kz kA, .ds aY] → aM ((rI .i64) g2) kA av → aM ((rI .i64) g2) uJ dJ → ae (rI .i64) 1 g2 uK lP → lV (al uH 0) aY h2) (H : zr c R r) : D9 w0 E R (al fV 0) (al ar 0) (al fU 0) (al dO 0) (al cX 0) lV d26 h := by
 unfold D9
 unfold C3 at M
 refine S.bj 0 rfl rfl ?_
 obtain ⟨nr, ajd, M⟩ := bind_some M
 refine S.og 1 rfl gH ajd (fun amJ amK vs aje ajf rp => ?_)
 cases rp
 refine S.uc (j := 0) 1 rfl aje ajf rfl ?_
 refine S.alloc (l := [(vi 0)]) (ab rfl rfl) (fun YM h S => ?_)
 refine S.cv [(vi nr)] [(vi nr)] rfl rfl (ab rfl rfl) (Nat.le_of_ble_eq_true rfl) rfl (fun h S => ?_)
 refine S.c8 [(.string v1.aO), (.string v1.aP), (vi v1.fArgs), (vi v1.aK), (vi v1.aL), aw, ax] 3 rfl rfl rfl (by decide) ?_
 refine S.bj 0 rfl rfl ?_
 obtain ⟨sB, Ch, M⟩ := bind_some M
 refine Ih N v1 nr aw ax S.sub S.ok aA aG Ch (fun g h Xt S1 qR => ?_)
 have aA := ae.mono aA aq.mono S1.bQ
 have aG := ae.mono aG aE.mono S1.bQ
 have gH := aM.mono gH (fun _ _ hh => (fG .i64) _ _ _ _ S1.bQ hh)
 have fW := aM.mono fW (fun _ _ hh => (fG .i64) _ _ _ _ S1.bQ hh)
 have fu := ae.mono fu (fG .i64) S1.bQ
 have sO := Sub.trans sO S1.bQ
 have S := S.ni S1
 have S := S.f2
 have S := S.f2
 have S := S.f7
 have S := S.f7
 have S := S.f5
 have S := S.f5
 have S := S.f7
 have S := S.f7
 have S := S.f8
 obtain ⟨kF, ajg, M⟩ := bind_some M
 refine HJ (fun (s : (List Int) × (List Int) × Bool × (List Int)) (x : Int × Int) => pA N s.1 nr v1 s.2.1 s.2.2.1 s.2.2.2 x.1 x.2 (fun f m0 m1 m2 m3 => some ((m0, m1, m2, m3), f))) (fun (s : (List Int) × (List Int) × Bool × (List Int)) (g h : AH) (Γ : List Ob) => ∃ (dc : Value) (fJ : List (List Value)) (dK : Value) (ft : Value) (fK : List (List Value)), Γ = [.bx fU [dc], .sl 3 1 dc fJ, .bx YM [(vi nr)], .bx ar [(.string v1.aO), (.string v1.aP), (vi v1.fArgs), (vi v1.aK), (vi v1.aL), aw, ax], .bx dO [dK], .bx cX [(.bool s.2.2.1)], .bx fV [ft], .sl 3 1 ft fK] ∧ aM ((rI .i64) g) fJ s.1 ∧ ae (rI .i64) 1 g dK s.2.1 ∧ aM ((rI .i64) g) fK s.2.2.2 ∧ ae aq.rep 4 g aw v1.aa ∧ ae aE.rep 3 g ax v1.aB) qR (fun s g h Γ g' h' hd sb => by obtain ⟨u0, u1, u2, u3, u4, e, z0, z1, z2, z3, z4⟩ := hd; exact ⟨u0, u1, u2, u3, u4, e, aM.mono z0 (fun _ _ hh => (fG .i64) _ _ _ _ sb hh), ae.mono z1 (fG .i64) sb, aM.mono z2 (fun _ _ hh => (fG .i64) _ _ _ _ sb hh), ae.mono z3 aq.mono sb, ae.mono z4 aE.mono sb⟩) S ⟨dc, fJ, dK, ft, fK, rfl, fW, fu, gH, aA, aG⟩ ajg (fun lo n q s x s2 f R g2 h2 Γ2 sub S D1 bm kk => ?_) (fun mE g h Γ2 sg S D1 => ?_)
 · obtain ⟨dc, fJ, dK, ft, fK, rfl, ajh, Ii, aji, YN, YO⟩ := D1
   show D8 w0 kM R (al fU 0) (al YM 0) (al ar 0) (al dO 0) (al cX 0) (al fV 0) lo n (vi x.1) (vi x.2) h2
   exact ai3 bm S ajh YN YO Ii aji (Sub.refl g2) (fun e sb S3 Qi ajj ajk => by cases e; exact kk _ _ _ sb S3 ⟨_, _, _, _, _, rfl, Qi, ajj, ajk, (ae.mono YN aq.mono sb), (ae.mono YO aE.mono sb)⟩)
 · obtain ⟨amL, amM, ajl, amN, amO, rfl, ajm, YP, ajn, _, _⟩ := D1
   have aA := ae.mono aA aq.mono sg
   have aG := ae.mono aG aE.mono sg
   have qR := qV.mono qR sg
   have sO := Sub.trans sO sg
   cases hf : kF.2 with
   | go =>
    rw [hf] at M
    have M := HC M
    refine HE ?_
    have S := S.f6
    have S := S.f6
    have S := S.f4
    have S := S.f4
    have S := S.f6
    have S := S.f5
    have S := S.f8
    have S := S.f8
    have S := S.t8
    exact ai7 M S ajn aA aG ajm YP sO C4 H
   | ret =>
    rw [hf] at M
    have M := HD M
    refine HF ?_
    refine S.gC (fun h S => ?_)
    refine S.bj 4 rfl rfl ?_
    refine S.bj 5 rfl rfl ?_
    cases M
    exact H _ _ ajl S.bJ YP
   | ex j =>
    rw [hf] at M
    cases M
theorem ajo {w0 : World} {c : Cx} {g h : AH} {E R : Value → W} {r : (List Int) × Bool} {N : Nat} {v9 v2 : List Int} {v3 : Bool} {fU : Nat} {dc : Value} {fJ : List (List Value)} {dO : Nat} {dK : Value} {cX : Nat} {d14 : List Nat}  (M : P3 N v9 v2 v3 = some r) (S : Sep c g h [.bx fU [dc], .sl 3 1 dc fJ, .bx dO [dK], .bx cX [(.bool v3)], .ds d14]) (fW : aM ((rI .i64) g) fJ v9) (fu : ae (rI .i64) 1 g dK v2)  (H : zr c R r) : D5 w0 E R (al fU 0) (al dO 0) (al cX 0) d14 h := by
 unfold D5
 unfold P3 at M
 refine S.bj 0 rfl rfl ?_
 have S := S.f2
 refine S.cv [dc] [dc] (lj (S.gX 2 rfl)) rfl (ab (S.gX 2 rfl) rfl) (Nat.le_of_ble_eq_true rfl) rfl (fun h S => ?_)
 have S := S.f3
 refine S.cv [(.bool true)] [(.bool true)] rfl rfl (ab rfl rfl) (Nat.le_of_ble_eq_true rfl) rfl (fun h S => ?_)
 have S := S.f4
 refine S.gC (fun h S => ?_)
 refine S.bj 1 rfl rfl ?_
 refine S.bj 0 rfl rfl ?_
 have S := S.f3
 obtain ⟨g, sg, S, ajp⟩ := S.fz fW (fG .i64)
 cases M
 exact H _ _ dc S.bJ ajp
theorem ajq {w0 : World} {c : Cx} {g h : AH} {E R : Value → W} {r : (List Int) × Bool} {N : Nat} {v1 : ag} {v9 v2 : List Int} {v3 : Bool} {bY : List Int} {ar : Nat} {aw ax : Value} {fU : Nat} {dc : Value} {fJ : List (List Value)} {dO : Nat} {dK : Value} {cX fV : Nat} {ft : Value} {fK : List (List Value)} {d25 : List Nat} {lV : Value → List Nat → W} {mu : (List Int) → (List Int) → (List Int) → Bool → Option ((List Int) × Bool)} {uG : AH} (M : P7 N v1 v9 v2 v3 bY mu = some r) (S : Sep c g h [.bx ar [(.string v1.aO), (.string v1.aP), (vi v1.fArgs), (vi v1.aK), (vi v1.aL), aw, ax], .bx fU [dc], .sl 3 1 dc fJ, .bx dO [dK], .bx cX [(.bool v3)], .bx fV [ft], .sl 3 1 ft fK, .ds d25]) (aA : ae aq.rep 4 g aw v1.aa) (aG : ae aE.rep 3 g ax v1.aB) (fW : aM ((rI .i64) g) fJ v9) (fu : ae (rI .i64) 1 g dK v2) (gH : aM ((rI .i64) g) fK bY) (sO : Sub uG g) (C4 : ∀ {uH : Nat} {av : List Int} {kz : Value} {kA : List (List Value)} {aY : List Nat} {dJ : List Int} {uI : Value} {uJ : List (List Value)} {lP : List Int} {uK : Value} {fT : Bool} {g2 h2 : AH}, mu av dJ lP fT = some r → Sub uG g2 → Sep c g2 h2 [.bx ar [(.string v1.aO), (.string v1.aP), (vi v1.fArgs), (vi v1.aK), (vi v1.aL), aw, ax], .bx fU [uI], .sl 3 1 uI uJ, .bx dO [uK], .bx cX [(.bool fT)], .bx uH [kz], .sl 3 1 kz kA, .ds aY] → aM ((rI .i64) g2) kA av → aM ((rI .i64) g2) uJ dJ → ae (rI .i64) 1 g2 uK lP → lV (al uH 0) aY h2) (H : zr c R r) : zM w0 E R (al ar 0) (al fU 0) (al dO 0) (al cX 0) lV (al fV 0) d25 h := by
 unfold zM
 unfold P7 at M
 refine S.bj 5 rfl rfl ?_
 refine S.Hz 6 rfl gH ?_
 refine oY.2 ?_
 refine bK (fun hc => ?_) (fun hc => ?_)
 · have M := aV hc M
   have S := S.f7
   have S := S.f5
   have S := S.f5
   have S := S.f5
   have S := S.f5
   have S := S.f5
   have S := S.f7
   have S := S.f7
   exact ajc M S gH aA aG fW fu sO C4 H
 · have M := aX hc M
   have S := S.f7
   have S := S.f5
   have S := S.f5
   have S := S.f5
   have S := S.f5
   have S := S.t5
   exact ajo M S fW fu H
theorem ajr {w0 : World} {c : Cx} {E R : Value → W} {r : (List Int) × Bool} {N : Nat} {v1 : ag} {ar : Nat} {aw ax : Value} {fU dO cX : Nat}   (H : zr c R r) : ∀ (n : Nat) {v9 v2 : List Int} {v3 : Bool} {bY : List Int} {dc : Value} {fJ : List (List Value)} {dK : Value} {fV : Nat} {ft : Value} {fK : List (List Value)} {d25 : List Nat} {g h : AH}, sN N v1 n v9 v2 v3 bY = some r → Sep c g h [.bx ar [(.string v1.aO), (.string v1.aP), (vi v1.fArgs), (vi v1.aK), (vi v1.aL), aw, ax], .bx fU [dc], .sl 3 1 dc fJ, .bx dO [dK], .bx cX [(.bool v3)], .bx fV [ft], .sl 3 1 ft fK, .ds d25] → ae aq.rep 4 g aw v1.aa → ae aE.rep 3 g ax v1.aB → aM ((rI .i64) g) fJ v9 → ae (rI .i64) 1 g dK v2 → aM ((rI .i64) g) fK bY → jX (α := (Value) × List Nat) (fun k a => zM w0 E R (al ar 0) (al fU 0) (al dO 0) (al cX 0) (fun b0 q => k ((b0), q)) a.1 a.2) n ((al fV 0), d25) h := by
 intro n
 induction n with
 | zero =>
  intro v9 v2 v3 bY dc fJ dK fV ft fK d25 g h M S aA aG fW fu gH
  unfold sN at M; cases M
 | succ n ih =>
  intro v9 v2 v3 bY dc fJ dK fV ft fK d25 g h M S aA aG fW fu gH
  exact ajq M S aA aG fW fu gH  (Sub.refl g) (fun M2 sub S2 O4 Qj ajs => ih M2 S2 (ae.mono aA aq.mono sub) (ae.mono aG aE.mono sub) Qj ajs O4 ) H
theorem ajt {w0 : World} {g h : AH} {Q : CR → AH → Prop} {r : (List Int) × Bool} {N : Nat} {x0 : ag} {cx cy : Value} (M : wN N x0 = some r) (sg : Sub g h) (ok : h.Ok) (cu : ae aq.rep 4 g cx x0.aa) (cD : ae aE.rep 3 g cy x0.aB) (H : zr ⟨g, h, []⟩ (fun v => Q (.ret v)) r) : WF PP w0 Jd [(.agg ⟨[(.string x0.aO), (.string x0.aP), (vi x0.fArgs), (vi x0.aK), (vi x0.aL), cx, cy]⟩)] h Q := by
 refine aan _ ?_
 have S := Sep.start sg ok
 unfold RC
 unfold wN at M
 have S : Sep _ g h [.ds ([] : List Nat)] := S.HI
 refine S.box [(.string x0.aO), (.string x0.aP), (vi x0.fArgs), (vi x0.aK), (vi x0.aL), cx, cy] rfl (ab rfl (ab rfl (ab rfl (ab rfl (ab rfl (ab cu.one (ab cD.one rfl))))))) (fun jF h S => ?_)
 refine S.alloc (l := [bN]) (ab rfl rfl) (fun wG h S => ?_)
 refine S.alloc (l := [(.bool false)]) (ab rfl rfl) (fun wq h S => ?_)
 refine S.ue [[(vi (-1))]] (cJ (m := [(vi (-1))]) (l2 := [(vi (-1))]) rfl rfl (Nat.le_of_ble_eq_true rfl) rfl rfl) rfl (by decide) (uh rfl ug) (ab rfl rfl) (fun zu h S => ?_)
 have zv : aM ((rI .i64) g) [[(vi (-1))]] [(-1)] := (aM.push aM.nil (show (rI .i64) g [(vi (-1))] (-1) from rfl))
 refine cr.2 ?_
 refine S.bj 3 rfl rfl ?_
 refine cu.len ?_
 obtain ⟨g, sg, S, Qk⟩ := S.fz zv (fG .i64)
 have cu := ae.mono cu aq.mono sg
 have cD := ae.mono cD aE.mono sg
 obtain ⟨eT, pk, M⟩ := bind_some M
 refine aju [(-1)] (x0.aa.length : Int) zu S.sub S.ok Qk pk (fun g h Ij YQ S1 YR => ?_)
 have cu := ae.mono cu aq.mono S1.bQ
 have cD := ae.mono cD aE.mono S1.bQ
 have Qk := ae.mono Qk (fG .i64) S1.bQ
 have S := S.ag9 S1
 refine S.alloc (l := [bN]) (ab rfl rfl) (fun Pj h S => ?_)
 refine S.cv [Ij] [Ij] (lj (S.gX 1 rfl)) rfl (ab (S.gX 1 rfl) rfl) (Nat.le_of_ble_eq_true rfl) rfl (fun h S => ?_)
 refine S.bj 0 rfl rfl ?_
 obtain ⟨Ig, Ql, M⟩ := bind_some M
 refine S.og 1 rfl YR Ql (fun amP amQ vs ajv ajw rp => ?_)
 cases rp
 have S := S.f1
 refine S.HA (j := 0) [(vi 0)] ajv ajw rfl rfl (ab rfl rfl) (by decide) (fun h S => ?_)
 have ajx : aM ((rI .i64) g) (YQ.set (0 : Int).toNat [(vi 0)]) (eT.set (0 : Int).toNat 0) := aM.set YR (show (rI .i64) g [(vi 0)] 0 from rfl) (0 : Int).toNat
 have S : Sep _ g h [.sl 3 1 Ij (YQ.set (0 : Int).toNat [(vi 0)]), .bx Pj [Ij], .bx wq [(.bool false)], .bx wG [bN], .bx jF [(.string x0.aO), (.string x0.aP), (vi x0.fArgs), (vi x0.aK), (vi x0.aL), cx, cy], .ds ([] : List Nat)] := S
 refine S.ue [[(vi 0)]] (cJ (m := [(vi 0)]) (l2 := [(vi 0)]) rfl rfl (Nat.le_of_ble_eq_true rfl) rfl rfl) rfl (by decide) (uh rfl ug) (ab rfl rfl) (fun YS h S => ?_)
 have ajy : aM ((rI .i64) g) [[(vi 0)]] [0] := (aM.push aM.nil (show (rI .i64) g [(vi 0)] 0 from rfl))
 refine S.alloc (l := [bN]) (ab rfl rfl) (fun amR h S => ?_)
 refine S.cv [YS] [YS] (lj (S.gX 1 rfl)) rfl (ab (S.gX 1 rfl) rfl) (Nat.le_of_ble_eq_true rfl) rfl (fun h S => ?_)
 have S := S.f7
 have S := S.f2
 have S := S.f2
 have S := S.f5
 have S := S.f6
 have S := S.f5
 have S := S.f6
 have S := S.f7
 exact ⟨N, ajr  H _ M S cu cD ajx ae.nil ajy ⟩
def Il (N : Nat) (v4 : List Int)  : Option ((List Int) × Int) :=
 some (v4, 0)
def Im (N : Nat) (v1 : ag)  : Option ((List Int) × Int) :=
(wN N v1).bind fun jG =>
 bif (!jG.2) then (
 some (([] : List Int), 12)) else (
 Il N jG.1)
def yO (N : Nat) (x0 : ag) : Option ((List Int) × Int) :=
(sH N x0).bind fun bD =>
 bif (!bD) then (
 some (([] : List Int), 1)) else (
 Im N x0)
abbrev Qm (c : Cx) (R : Value → W) (r : (List Int) × Int) : Prop := ∀ (g' h' : AH) (w1 : Value), Sep c g' h' [] → ae (rI .i64) 1 g' w1 r.1 → R (.tuple ⟨[w1, (vi r.2)]⟩) h'
theorem ajz {w0 : World} {c : Cx} {g h : AH} {E R : Value → W} {r : (List Int) × Int} {N : Nat} {v4 : List Int} {jY : Value}  (M : Il N v4 = some r) (S : Sep c g h []) (nj : ae (rI .i64) 1 g jY v4)  (H : Qm c R r) : Js w0 E R jY h := by
 unfold Js
 unfold Il at M
 cases M
 exact H _ _ jY S.bJ nj
theorem ajA {w0 : World} {c : Cx} {g h : AH} {E R : Value → W} {r : (List Int) × Int} {N : Nat} {v1 : ag} {ar : Nat} {aw ax : Value}  (M : Im N v1 = some r) (S : Sep c g h [.bx ar [(.string v1.aO), (.string v1.aP), (vi v1.fArgs), (vi v1.aK), (vi v1.aL), aw, ax]]) (aA : ae aq.rep 4 g aw v1.aa) (aG : ae aE.rep 3 g ax v1.aB)  (H : Qm c R r) : Jt w0 E R (al ar 0) h := by
 unfold Jt
 unfold Im at M
 refine S.c8 [(.string v1.aO), (.string v1.aP), (vi v1.fArgs), (vi v1.aK), (vi v1.aL), aw, ax] 0 rfl rfl rfl (by decide) ?_
 obtain ⟨jG, wA, M⟩ := bind_some M
 refine ajt wA S.sub S.ok aA aG (fun g h w_6 S1 F_7 => ?_)
 have aA := ae.mono aA aq.mono S1.bQ
 have aG := ae.mono aG aE.mono S1.bQ
 have S := S.ni S1
 refine (gT rfl).2 ?_
 refine (gT rfl).2 ?_
 refine fy.2 ?_
 refine bK (fun hc => ?_) (fun hc => ?_)
 · have M := aV hc M
   cases M
   exact H _ _ bN S.bJ ae.nil
 · have M := aX hc M
   have S := S.t0
   exact ajz M S F_7 H
theorem ag4 {w0 : World} {g h : AH} {Q : CR → AH → Prop} {r : (List Int) × Int} {N : Nat} {x0 : ag} {cx cy : Value} (M : yO N x0 = some r) (sg : Sub g h) (ok : h.Ok) (cu : ae aq.rep 4 g cx x0.aa) (cD : ae aE.rep 3 g cy x0.aB) (H : Qm ⟨g, h, []⟩ (fun v => Q (.ret v)) r) : WF PP w0 Ju [(.agg ⟨[(.string x0.aO), (.string x0.aP), (vi x0.fArgs), (vi x0.aK), (vi x0.aL), cx, cy]⟩)] h Q := by
 refine aay _ ?_
 have S := Sep.start sg ok
 unfold RI
 unfold yO at M
 refine S.box [(.string x0.aO), (.string x0.aP), (vi x0.fArgs), (vi x0.aK), (vi x0.aL), cx, cy] rfl (ab rfl (ab rfl (ab rfl (ab rfl (ab rfl (ab cu.one (ab cD.one rfl))))))) (fun jF h S => ?_)
 refine S.c8 [(.string x0.aO), (.string x0.aP), (vi x0.fArgs), (vi x0.aK), (vi x0.aL), cx, cy] 0 rfl rfl rfl (by decide) ?_
 obtain ⟨bD, jE, M⟩ := bind_some M
 refine CA jE S.sub S.ok cu cD (fun _ h  S1  => ?_)
 have S := S.eo S1
 refine fy.2 ?_
 refine bK (fun hc => ?_) (fun hc => ?_)
 · have M := aV hc M
   cases M
   exact H _ _ bN S.bJ ae.nil
 · have M := aX hc M
   exact ajA M S cu cD H
def C5 {ρ : Type} (N : Nat) (v3 : List Int) (fL : ag) (az : Int) (ak : Int) (dh : Fl → (List Int) → Option ρ) : Option ρ :=
(CY N v3 az).bind fun Ig =>
 bif (!Ig) then (
 gu (decide (v3.length + [az].length ≤ 1048576)) (
 dh .go (v3 ++ [az]))) else (
 dh .go v3)
def Qn (N : Nat) (v3 : List Int)  : Option ((List Int)) :=
 some v3
def C6 (N : Nat) (v1 : ag) (x1 : Int)  : Option ((List Int)) :=
(sM N v1 x1).bind fun eT =>
(kv (fun (s : (List Int)) (x : Int × Int) => C5 N s v1 x.1 x.2 (fun f m0 => some (m0, f))) eT ([] : List Int)).bind fun Io =>
 ui Io.2 (
 Qn N Io.1) (
 none) (fun _ => none)
def C7 (N : Nat) (v1 : ag) (x1 : Int) (fO : Bool)  : Option ((List Int)) :=
 bif fO then (
 some ([] : List Int)) else (
 C6 N v1 x1)
def Cb (N : Nat) (x0 : ag) (x1 : Int) : Option ((List Int)) :=
(sH N x0).bind fun bD =>
 bif (!bD) then (
 C7 N x0 x1 true) else (
(om x1 0 (bf .i64 ((x0.aa.length : Int) - 1))).bind fun jG =>
 C7 N x0 x1 (!jG))
abbrev Ip (c : Cx) (R : Value → W) (r : (List Int)) : Prop := ∀ (g' h' : AH) (w1 : Value), Sep c g' h' [] → ae (rI .i64) 1 g' w1 r → R w1 h'
theorem ajB {ρ : Type} {w0 : World} {c : Cx} {g h : AH} {E R : Value → W} {r : ρ} {N : Nat} {v3 : List Int} {fL : ag} {az ak : Int} {cX : Nat} {ff : Value} {rh : List (List Value)} {C8 : Nat} {wO wP : Value} {n_ : Nat} {o_ : LO} {d_ : List Nat} {dh : Fl → (List Int) → Option ρ} {ji : AH} (M : C5 N v3 fL az ak dh = some r) (S : Sep c g h [.lp n_ o_ .ready none, .ds d_, .bx cX [ff], .sl 3 1 ff rh, .bx C8 [(.string fL.aO), (.string fL.aP), (vi fL.fArgs), (vi fL.aK), (vi fL.aL), wO, wP]]) (wQ : aM ((rI .i64) g) rh v3) (ajC : ae aq.rep 4 g wO fL.aa) (ajD : ae aE.rep 3 g wP fL.aB) (iz : Sub ji g) (iA : ∀ {f : Fl} {pB : List Int} {pC : Value} {pD : List (List Value)} {g2 h2 : AH}, dh f pB = some r → Sub ji g2 → Sep c g2 h2 [.lp n_ o_ f.st f.pd, .ds d_, .bx cX [pC], .sl 3 1 pC pD, .bx C8 [(.string fL.aO), (.string fL.aP), (vi fL.fArgs), (vi fL.aK), (vi fL.aL), wO, wP]] → aM ((rI .i64) g2) pD pB → R (.bool f.on) h2) : El w0 E R (al cX 0) o_ n_ (vi az) (vi ak) h := by
 unfold El
 unfold C5 at M
 refine S.ox ?_
 refine S.lz (fun h S => ?_)
 refine S.bj 2 rfl rfl ?_
 have S := S.f3
 obtain ⟨amS, sq, uq, ajE, bq⟩ := S.ahf wQ (fG .i64)
 obtain ⟨Ig, Ql, M⟩ := bind_some M
 refine aiN Ql uq S.ok ajE (fun _ h  S1  => ?_)
 have S := bq _ _ S1
 refine fy.2 ?_
 refine bK (fun hc => ?_) (fun hc => ?_)
 · have M := aV hc M
   refine S.bj 3 rfl rfl ?_
   refine S.ue [[(vi az)]] (cJ (m := [(vi az)]) (l2 := [(vi az)]) rfl rfl (Nat.le_of_ble_eq_true rfl) rfl rfl) rfl (by decide) (uh rfl ug) (ab rfl rfl) (fun amT h S => ?_)
   have Qo : aM ((rI .i64) g) [[(vi az)]] [az] := (aM.push aM.nil (show (rI .i64) g [(vi az)] az from rfl))
   have S := S.f1
   obtain ⟨ajF, M⟩ := qQ M
   refine S.app (S.rd 1 rfl) (by rw [wQ.1, Qo.1]; exact ajF) (by decide) rfl (qU (qT .i64) Qo) (qU (qT .i64) wQ) (fun YT h S => ?_)
   have ajG : aM ((rI .i64) g) (rh ++ [[(vi az)]]) (v3 ++ [az]) := aM.append wQ Qo
   have S := S.f4
   refine S.cv [YT] [YT] (lj (S.gX 1 rfl)) rfl (ab (S.gX 1 rfl) rfl) (Nat.le_of_ble_eq_true rfl) rfl (fun h S => ?_)
   have S := S.f3
   refine S.ga (fun h S => ?_)
   have S := S.f5
   have S := S.f3
   have S := S.f3
   have S := S.f5
   have S := S.f4
   have S := S.t5
   exact iA M iz S ajG
 · have M := aX hc M
   have S := S.f1
   refine S.ga (fun h S => ?_)
   have S := S.f4
   have S := S.f2
   have S := S.f4
   have S := S.f4
   have S := S.f4
   exact iA M iz S wQ
theorem ajH {w0 : World} {c : Cx} {g h : AH} {E R : Value → W} {r : (List Int)} {N : Nat} {v3 : List Int} {cX : Nat} {ff : Value} {rh : List (List Value)} {d4 : List Nat}  (M : Qn N v3 = some r) (S : Sep c g h [.bx cX [ff], .sl 3 1 ff rh, .ds d4]) (wQ : aM ((rI .i64) g) rh v3)  (H : Ip c R r) : Ek w0 E R (al cX 0) d4 h := by
 unfold Ek
 unfold Qn at M
 refine S.bj 0 rfl rfl ?_
 have S := S.f2
 refine S.gC (fun h S => ?_)
 have S := S.f1
 obtain ⟨g, sg, S, ajI⟩ := S.fz wQ (fG .i64)
 cases M
 exact H _ _ ff S.bJ ajI
theorem ajJ {w0 : World} {c : Cx} {g h : AH} {E R : Value → W} {r : (List Int)} {N : Nat} {v1 : ag} {x1 : Int} {ar : Nat} {aw ax : Value} {d2 : List Nat}  (M : C6 N v1 x1 = some r) (S : Sep c g h [.bx ar [(.string v1.aO), (.string v1.aP), (vi v1.fArgs), (vi v1.aK), (vi v1.aL), aw, ax], .ds d2]) (aA : ae aq.rep 4 g aw v1.aa) (aG : ae aE.rep 3 g ax v1.aB)  (H : Ip c R r) : Em w0 E R (al ar 0) (vi x1) d2 h := by
 unfold Em
 unfold C6 at M
 refine S.alloc (l := [bN]) (ab rfl rfl) (fun YU h S => ?_)
 refine S.c8 [(.string v1.aO), (.string v1.aP), (vi v1.fArgs), (vi v1.aK), (vi v1.aL), aw, ax] 1 rfl rfl rfl (by decide) ?_
 obtain ⟨eT, pk, M⟩ := bind_some M
 refine Ih N v1 x1 aw ax S.sub S.ok aA aG pk (fun g h w_9 S1 Qp => ?_)
 have aA := ae.mono aA aq.mono S1.bQ
 have aG := ae.mono aG aE.mono S1.bQ
 have S := S.ni S1
 have S := S.OK 3 1
 have S := S.f2
 have S := S.f1
 have S := S.f2
 have S := S.f3
 obtain ⟨Io, Pm, M⟩ := bind_some M
 refine HJ (fun (s : (List Int)) (x : Int × Int) => C5 N s v1 x.1 x.2 (fun f m0 => some (m0, f))) (fun (s : (List Int)) (g h : AH) (Γ : List Ob) => ∃ (ff : Value) (rh : List (List Value)), Γ = [.bx YU [ff], .sl 3 1 ff rh, .bx ar [(.string v1.aO), (.string v1.aP), (vi v1.fArgs), (vi v1.aK), (vi v1.aL), aw, ax]] ∧ aM ((rI .i64) g) rh s ∧ ae aq.rep 4 g aw v1.aa ∧ ae aE.rep 3 g ax v1.aB) Qp (fun s g h Γ g' h' hd sb => by obtain ⟨u0, u1, e, z0, z1, z2⟩ := hd; exact ⟨u0, u1, e, aM.mono z0 (fun _ _ hh => (fG .i64) _ _ _ _ sb hh), ae.mono z1 aq.mono sb, ae.mono z2 aE.mono sb⟩) S ⟨bN, [], rfl, (aM.nil (R := (rI .i64) g)), aA, aG⟩ Pm (fun lo n q s x s2 f R g2 h2 Γ2 sub S D1 bm kk => ?_) (fun oA g h Γ2 sg S D1 => ?_)
 · obtain ⟨ff, rh, rfl, ajK, C9, Da⟩ := D1
   show El w0 kM R (al YU 0) lo n (vi x.1) (vi x.2) h2
   exact ajB bm S ajK C9 Da (Sub.refl g2) (fun e sb S3 Qi => by cases e; exact kk _ _ _ sb S3 ⟨_, _, rfl, Qi, (ae.mono C9 aq.mono sb), (ae.mono Da aE.mono sb)⟩)
 · obtain ⟨amU, amV, rfl, Qq, _, _⟩ := D1
   have aA := ae.mono aA aq.mono sg
   have aG := ae.mono aG aE.mono sg
   have Qp := qV.mono Qp sg
   cases hf : Io.2 with
   | go =>
    rw [hf] at M
    have M := HC M
    refine HE ?_
    have S := S.f2
    have S := S.f2
    have S := S.t3
    exact ajH M S Qq H
   | ret =>
    rw [hf] at M
    have M := HD M
    refine HF ?_
    cases M
   | ex j =>
    rw [hf] at M
    cases M
theorem YV {w0 : World} {c : Cx} {g h : AH} {E R : Value → W} {r : (List Int)} {N : Nat} {v1 : ag} {x1 : Int} {fO : Bool} {ar : Nat} {aw ax : Value}  (M : C7 N v1 x1 fO = some r) (S : Sep c g h [.bx ar [(.string v1.aO), (.string v1.aP), (vi v1.fArgs), (vi v1.aK), (vi v1.aL), aw, ax], .ds ([] : List Nat)]) (aA : ae aq.rep 4 g aw v1.aa) (aG : ae aE.rep 3 g ax v1.aB)  (H : Ip c R r) : En w0 E R (al ar 0) (vi x1) (.bool fO) h := by
 unfold En
 unfold C7 at M
 refine bK (fun hc => ?_) (fun hc => ?_)
 · have M := aV hc M
   have S := S.f1
   refine S.gC (fun h S => ?_)
   cases M
   exact H _ _ bN S.bJ ae.nil
 · have M := aX hc M
   exact ajJ M S aA aG H
theorem agQ {w0 : World} {g h : AH} {Q : CR → AH → Prop} {r : (List Int)} {N : Nat} {x0 : ag} {x1 : Int} {cx cy : Value} (M : Cb N x0 x1 = some r) (sg : Sub g h) (ok : h.Ok) (cu : ae aq.rep 4 g cx x0.aa) (cD : ae aE.rep 3 g cy x0.aB) (H : Ip ⟨g, h, []⟩ (fun v => Q (.ret v)) r) : WF PP w0 JA [(.agg ⟨[(.string x0.aO), (.string x0.aP), (vi x0.fArgs), (vi x0.aK), (vi x0.aL), cx, cy]⟩), (vi x1)] h Q := by
 refine aaC _ _ ?_
 have S := Sep.start sg ok
 unfold RM
 unfold Cb at M
 have S : Sep _ g h [.ds ([] : List Nat)] := S.HI
 refine S.box [(.string x0.aO), (.string x0.aP), (vi x0.fArgs), (vi x0.aK), (vi x0.aL), cx, cy] rfl (ab rfl (ab rfl (ab rfl (ab rfl (ab rfl (ab cu.one (ab cD.one rfl))))))) (fun jF h S => ?_)
 refine S.c8 [(.string x0.aO), (.string x0.aP), (vi x0.fArgs), (vi x0.aK), (vi x0.aL), cx, cy] 0 rfl rfl rfl (by decide) ?_
 obtain ⟨bD, jE, M⟩ := bind_some M
 refine CA jE S.sub S.ok cu cD (fun _ h  S1  => ?_)
 have S := S.eo S1
 refine fy.2 ?_
 cases hc : (!bD)
 · have M := aX hc M
   refine aH rfl ?_
   refine aH rfl ?_
   refine cr.2 ?_
   refine aH rfl ?_
   refine S.bj 0 rfl rfl ?_
   refine aH rfl ?_
   refine cu.len ?_
   refine aH rfl ?_
   refine wg.2 ?_
   refine aH rfl ?_
   obtain ⟨jG, wA, M⟩ := bind_some M
   refine uj wA S.sub S.ok (fun _ h  S1  => ?_)
   have S := S.eo S1
   refine aH rfl ?_
   refine fy.2 ?_
   refine bB.2 ?_
   exact YV M S cu cD H
 · have M := aV hc M
   refine aI (by decide) ?_
   refine aI (by decide) ?_
   refine aI (by decide) ?_
   refine aI (by decide) ?_
   refine aI (by decide) ?_
   refine aI (by decide) ?_
   refine aI (by decide) ?_
   refine bB.2 ?_
   exact YV M S cu cD H
def Iq {ρ : Type} (N : Nat) (v8 : List Bool) (cT : Int) (v11 : List Int) (Qr : Int → Int → Int → Option Bool) (Db : Int) (j0 : List Bool) (jH : ag) (dh : Fl → (List Bool) → (List Bool) → (List Int) → Option (ρ)) : Option (ρ) :=
(ix v8 cT).bind fun YW =>
 bif (!YW) then (
(ix v8 cT).bind fun ajL =>
 gu (decide (v11.length + [cT].length ≤ 1048576)) (
 dh .go j0 (v8.set cT.toNat true) (v11 ++ [cT]))) else (
 dh .go j0 v8 v11)
def Dc {ρ : Type} (N : Nat) (v2 : Int → Int → Int → Option Bool) (dz : Int) (v3 : List Bool) (v8 : List Bool) (v11 : List Int) (lQ : ag) (cT : Int) (mI : Int) (dh : Fl → (List Bool) → (List Bool) → (List Int) → Option ρ) : Option ρ :=
(v2 dz cT mI).bind fun qP =>
 bif (!qP) then (
 dh .ret ([] : List Bool) v8 v11) else (
 Iq N v8 cT v11 v2 dz v3 lQ dh)
def zw (N : Nat) (v11 : List Int) (v1 : ag) (v2 : Int → Int → Int → Option Bool) (v3 : List Bool) (v8 : List Bool) (fq : (List Int) → (List Bool) → (List Bool) → Option ((List Bool))) : Option ((List Bool)) :=
(ix v11 (bf .i64 ((v11.length : Int) - 1))).bind fun ku =>
(sE v11 0 (bf .i64 ((v11.length : Int) - 1))).bind fun sG =>
(sM N v1 ku).bind fun sB =>
(kv (fun (s : (List Bool) × (List Bool) × (List Int)) (x : Int × Int) => Dc N v2 ku s.1 s.2.1 s.2.2 v1 x.1 x.2 (fun f m0 m1 m2 => some ((m0, m1, m2), f))) sB (v3, v8, sG)).bind fun wR =>
 ui wR.2 (
 fq wR.1.2.2 wR.1.1 wR.1.2.1) (
 some wR.1.1) (fun _ => none)
def Ir (N : Nat) (v8 : List Bool) (v3 : List Bool)  : Option ((List Bool)) :=
 some v8
def Dd (N : Nat) (v11 : List Int) (v1 : ag) (v2 : Int → Int → Int → Option Bool) (v3 : List Bool) (v8 : List Bool) (fq : (List Int) → (List Bool) → (List Bool) → Option ((List Bool))) : Option ((List Bool)) :=
 bif (decide (0 < (v11.length : Int))) then (
 zw N v11 v1 v2 v3 v8 fq) else (
 Ir N v8 v3)
def zx (N : Nat) (v1 : ag) (v2 : Int → Int → Int → Option Bool)  : Nat → (List Int) → (List Bool) → (List Bool) → Option ((List Bool))
 | 0, _, _, _ => none
 | n + 1, v11, v3, v8 => Dd N v11 v1 v2 v3 v8  (fun pz fT lR => zx N v1 v2 n pz fT lR)
def De (N : Nat) (x0 : ag) (x1 : Int → Int → Int → Option Bool) : Option ((List Bool)) :=
 gu (decide (0 ≤ (x0.aa.length : Int)) && decide ((x0.aa.length : Int) ≤ 65536)) (
(ix (List.replicate (x0.aa.length : Int).toNat false) 0).bind fun ajM =>
 zx N x0 x1 N [0] ([] : List Bool) ((List.replicate (x0.aa.length : Int).toNat false).set (0 : Int).toNat true))
abbrev Df (c : Cx) (R : Value → W) (r : (List Bool)) : Prop := ∀ (g' h' : AH) (w1 : Value), Sep c g' h' [] → ae rB 1 g' w1 r → R w1 h'
theorem ajN {ρ : Type} {w0 : World} {c : Cx} {g h : AH} {E R : Value → W} {r : ρ} {N : Nat} {v8 : List Bool} {cT : Int} {v11 : List Int} {Qr : Int → Int → Int → Option Bool} {Db : Int} {j0 : List Bool} {jH : ag} {gZ : Nat} {fM : Value} {gA : List (List Value)} {iT : Nat} {fw : Value} {iB : List (List Value)} {nu : Nat} {nv : LO} {re : List Nat} {Qs : Nat} {Is : Value} {Qt rf : Nat} {Qu : Value} {Qv : Nat} {Iu Iv : Value} {dh : Fl → (List Bool) → (List Bool) → (List Int) → Option (ρ)} {ji : AH} (M : Iq N v8 cT v11 Qr Db j0 jH dh = some r) (S : Sep c g h [.bx gZ [fM], .sl 4 1 fM gA, .bx iT [fw], .sl 3 1 fw iB, .lp nu nv .busy none, .ds re, .bx Qs [Is], .bx Qt [(vi Db)], .bx rf [Qu], .bx Qv [(.string jH.aO), (.string jH.aP), (vi jH.fArgs), (vi jH.aK), (vi jH.aL), Iu, Iv]]) (jI : aM (rB g) gA v8) (j2 : aM ((rI .i64) g) iB v11) (amW : lq w0 g Is Qr) (YX : ae rB 1 g Qu j0) (amX : ae aq.rep 4 g Iu jH.aa) (amY : ae aE.rep 3 g Iv jH.aB) (iz : Sub ji g) (iA : ∀ {f : Fl} {fT : List Bool} {pE : Value} {lR : List Bool} {pF : Value} {pG : List (List Value)} {mv : List Int} {Dg : Value} {Dh : List (List Value)} {g2 h2 : AH}, dh f fT lR mv = some r → Sub ji g2 → Sep c g2 h2 [.lp nu nv f.st f.pd, .ds re, .bx Qs [Is], .bx Qt [(vi Db)], .bx rf [pE], .bx gZ [pF], .sl 4 1 pF pG, .bx iT [Dg], .sl 3 1 Dg Dh, .bx Qv [(.string jH.aO), (.string jH.aP), (vi jH.fArgs), (vi jH.aK), (vi jH.aL), Iu, Iv]] → ae rB 1 g2 pE fT → aM (rB g2) pG lR → aM ((rI .i64) g2) Dh mv → R (.bool f.on) h2) (H : True) : Ez w0 E R (al gZ 0) (vi cT) (al iT 0) nv nu h := by
 unfold Ez
 unfold Iq at M
 refine S.bj 0 rfl rfl ?_
 obtain ⟨YW, ajO, M⟩ := bind_some M
 refine S.og 1 rfl jI ajO (fun amZ am0 vs ajP ajQ rp => ?_)
 cases rp
 refine S.uc (j := 0) 1 rfl ajP ajQ rfl ?_
 refine fy.2 ?_
 refine bK (fun hc => ?_) (fun hc => ?_)
 · have M := aV hc M
   refine S.bj 0 rfl rfl ?_
   obtain ⟨ajL, ajR, M⟩ := bind_some M
   refine S.og 1 rfl jI ajR (fun am1 am2 vs Xr ajS rp => ?_)
   cases rp
   have S := S.f1
   refine S.HA (j := 0) [(.bool true)] Xr ajS rfl rfl (ab rfl rfl) (by decide) (fun h S => ?_)
   have ajT : aM (rB g) (gA.set cT.toNat [(.bool true)]) (v8.set cT.toNat true) := aM.set jI (show rB g [(.bool true)] true from rfl) cT.toNat
   have S : Sep _ g h [.sl 4 1 fM (gA.set cT.toNat [(.bool true)]), .bx gZ [fM], .bx iT [fw], .sl 3 1 fw iB, .lp nu nv .busy none, .ds re, .bx Qs [Is], .bx Qt [(vi Db)], .bx rf [Qu], .bx Qv [(.string jH.aO), (.string jH.aP), (vi jH.fArgs), (vi jH.aK), (vi jH.aL), Iu, Iv]] := S
   refine S.bj 2 rfl rfl ?_
   refine S.ue [[(vi cT)]] (cJ (m := [(vi cT)]) (l2 := [(vi cT)]) rfl rfl (Nat.le_of_ble_eq_true rfl) rfl rfl) rfl (by decide) (uh rfl ug) (ab rfl rfl) (fun am3 h S => ?_)
   have Qw : aM ((rI .i64) g) [[(vi cT)]] [cT] := (aM.push aM.nil (show (rI .i64) g [(vi cT)] cT from rfl))
   have S := S.f4
   obtain ⟨ajU, M⟩ := qQ M
   refine S.app (S.rd 1 rfl) (by rw [j2.1, Qw.1]; exact ajU) (by decide) rfl (qU (qT .i64) Qw) (qU (qT .i64) j2) (fun YY h S => ?_)
   have ajV : aM ((rI .i64) g) (iB ++ [[(vi cT)]]) (v11 ++ [cT]) := aM.append j2 Qw
   have S := S.f4
   refine S.cv [YY] [YY] (lj (S.gX 1 rfl)) rfl (ab (S.gX 1 rfl) rfl) (Nat.le_of_ble_eq_true rfl) rfl (fun h S => ?_)
   have S := S.f5
   refine S.ga (fun h S => ?_)
   have S := S.f10
   have S := S.f3
   have S := S.f3
   have S := S.f5
   have S := S.f6
   have S := S.f10
   have S := S.f10
   have S := S.f10
   have S := S.f10
   have S := S.f9
   have S := S.t10
   exact iA M iz S YX ajT ajV
 · have M := aX hc M
   have S := S.f4
   refine S.ga (fun h S => ?_)
   have S := S.f9
   have S := S.f5
   have S := S.f5
   have S := S.f5
   have S := S.f5
   have S := S.f9
   have S := S.f9
   have S := S.f9
   have S := S.f9
   have S := S.f9
   exact iA M iz S YX jI j2
theorem ajW {ρ : Type} {w0 : World} {c : Cx} {g h : AH} {E R : Value → W} {r : ρ} {N : Nat} {v2 : Int → Int → Int → Option Bool} {dz : Int} {v3 v8 : List Bool} {v11 : List Int} {lQ : ag} {cT mI : Int} {dO : Nat} {dK : Value} {Qx cX : Nat} {ff : Value} {gZ : Nat} {fM : Value} {gA : List (List Value)} {iT : Nat} {fw : Value} {iB : List (List Value)} {YZ : Nat} {Qy Qz : Value} {n_ : Nat} {o_ : LO} {d_ : List Nat} {dh : Fl → (List Bool) → (List Bool) → (List Int) → Option ρ} {ji : AH} (M : Dc N v2 dz v3 v8 v11 lQ cT mI dh = some r) (S : Sep c g h [.lp n_ o_ .ready none, .ds d_, .bx dO [dK], .bx Qx [(vi dz)], .bx cX [ff], .bx gZ [fM], .sl 4 1 fM gA, .bx iT [fw], .sl 3 1 fw iB, .bx YZ [(.string lQ.aO), (.string lQ.aP), (vi lQ.fArgs), (vi lQ.aK), (vi lQ.aL), Qy, Qz]]) (fu : lq w0 g dK v2) (oq : ae rB 1 g ff v3) (jI : aM (rB g) gA v8) (j2 : aM ((rI .i64) g) iB v11) (ajX : ae aq.rep 4 g Qy lQ.aa) (ajY : ae aE.rep 3 g Qz lQ.aB) (iz : Sub ji g) (iA : ∀ {f : Fl} {fT : List Bool} {pE : Value} {lR : List Bool} {pF : Value} {pG : List (List Value)} {mv : List Int} {Dg : Value} {Dh : List (List Value)} {g2 h2 : AH}, dh f fT lR mv = some r → Sub ji g2 → Sep c g2 h2 [.lp n_ o_ f.st f.pd, .ds d_, .bx dO [dK], .bx Qx [(vi dz)], .bx cX [pE], .bx gZ [pF], .sl 4 1 pF pG, .bx iT [Dg], .sl 3 1 Dg Dh, .bx YZ [(.string lQ.aO), (.string lQ.aP), (vi lQ.fArgs), (vi lQ.aK), (vi lQ.aL), Qy, Qz]] → ae rB 1 g2 pE fT → aM (rB g2) pG lR → aM ((rI .i64) g2) Dh mv → R (.bool f.on) h2) : EA w0 E R (al dO 0) (al Qx 0) (al cX 0) (al gZ 0) (al iT 0) o_ n_ (vi cT) (vi mI) h := by
 unfold EA
 unfold Dc at M
 refine S.ox ?_
 refine S.lz (fun h S => ?_)
 refine S.bj 2 rfl rfl ?_
 refine S.bj 3 rfl rfl ?_
 obtain ⟨qP, yP, M⟩ := bind_some M
 refine fu.2 dz cT mI _ _ _ _ _ (Sub.refl _) S.sub S.ok  yP (fun _ h  S1  => ?_)
 have S := S.eo S1
 refine fy.2 ?_
 refine bK (fun hc => ?_) (fun hc => ?_)
 · have M := aV hc M
   have S := S.f4
   refine S.cv [bN] [bN] (lj rfl) rfl (ab rfl rfl) (Nat.le_of_ble_eq_true rfl) rfl (fun h S => ?_)
   have S := S.f1
   refine S.ga (fun h S => ?_)
   have S := S.f9
   have S := S.f9
   have S := S.f9
   have S := S.f9
   have S := S.f9
   have S := S.f6
   have S := S.f9
   have S := S.f9
   have S := S.f9
   have S := S.f9
   exact iA M iz S ae.nil jI j2
 · have M := aX hc M
   have S := S.f9
   have S := S.f5
   have S := S.f5
   have S := S.f5
   have S := S.f5
   have S := S.f5
   have S := S.f9
   have S := S.f9
   have S := S.f9
   have S := S.f9
   exact ajN M S jI j2 fu oq ajX ajY iz iA trivial
theorem ajZ {w0 : World} {c : Cx} {g h : AH} {E R : Value → W} {r : (List Bool)} {N : Nat} {v11 : List Int} {v1 : ag} {v2 : Int → Int → Int → Option Bool} {v3 v8 : List Bool} {iT : Nat} {fw : Value} {iB : List (List Value)} {ar : Nat} {aw ax : Value} {dO : Nat} {dK : Value} {cX : Nat} {ff : Value} {gZ : Nat} {fM : Value} {gA : List (List Value)} {d22 : List Nat} {rv : List Nat → W} {fq : (List Int) → (List Bool) → (List Bool) → Option ((List Bool))} {Di : AH} (M : zw N v11 v1 v2 v3 v8 fq = some r) (S : Sep c g h [.bx iT [fw], .sl 3 1 fw iB, .bx ar [(.string v1.aO), (.string v1.aP), (vi v1.fArgs), (vi v1.aK), (vi v1.aL), aw, ax], .bx dO [dK], .bx cX [ff], .bx gZ [fM], .sl 4 1 fM gA, .ds d22]) (j2 : aM ((rI .i64) g) iB v11) (aA : ae aq.rep 4 g aw v1.aa) (aG : ae aE.rep 3 g ax v1.aB) (fu : lq w0 g dK v2) (oq : ae rB 1 g ff v3) (jI : aM (rB g) gA v8) (wS : Sub Di g) (QA : ∀ {av : List Nat} {pz : List Int} {Dj : Value} {Dk : List (List Value)} {fT : List Bool} {pE : Value} {lR : List Bool} {pF : Value} {pG : List (List Value)} {g2 h2 : AH}, fq pz fT lR = some r → Sub Di g2 → Sep c g2 h2 [.bx iT [Dj], .sl 3 1 Dj Dk, .bx ar [(.string v1.aO), (.string v1.aP), (vi v1.fArgs), (vi v1.aK), (vi v1.aL), aw, ax], .bx dO [dK], .bx cX [pE], .bx gZ [pF], .sl 4 1 pF pG, .ds av] → aM ((rI .i64) g2) Dk pz → ae rB 1 g2 pE fT → aM (rB g2) pG lR → rv av h2) (H : Df c R r) : EB w0 E R (al iT 0) (al ar 0) (al dO 0) (al cX 0) (al gZ 0) rv d22 h := by
 unfold EB
 unfold zw at M
 refine S.bj 0 rfl rfl ?_
 refine S.bj 0 rfl rfl ?_
 refine S.Hz 1 rfl j2 ?_
 refine wg.2 ?_
 obtain ⟨ku, Ci, M⟩ := bind_some M
 refine S.og 1 rfl j2 Ci (fun agS agT vs aj0 aj1 rp => ?_)
 cases rp
 refine S.uc (j := 0) 1 rfl aj0 aj1 rfl ?_
 refine S.alloc (l := [(vi 0)]) (ab rfl rfl) (fun Y0 h S => ?_)
 refine S.cv [(vi ku)] [(vi ku)] rfl rfl (ab rfl rfl) (Nat.le_of_ble_eq_true rfl) rfl (fun h S => ?_)
 refine S.bj 1 rfl rfl ?_
 refine S.bj 1 rfl rfl ?_
 refine S.Hz 2 rfl j2 ?_
 refine wg.2 ?_
 have S := S.f2
 obtain ⟨sG, Cz, M⟩ := bind_some M
 refine S.ahs j2 Cz (fun Iw aj2 S QB => ?_)
 have S := S.f2
 refine S.cv [Iw] [Iw] (lj (S.gX 1 rfl)) rfl (ab (S.gX 1 rfl) rfl) (Nat.le_of_ble_eq_true rfl) rfl (fun h S => ?_)
 refine S.c8 [(.string v1.aO), (.string v1.aP), (vi v1.fArgs), (vi v1.aK), (vi v1.aL), aw, ax] 3 rfl rfl rfl (by decide) ?_
 refine S.bj 2 rfl rfl ?_
 obtain ⟨sB, Ch, M⟩ := bind_some M
 refine Ih N v1 ku aw ax S.sub S.ok aA aG Ch (fun g h Xt S1 qR => ?_)
 have aA := ae.mono aA aq.mono S1.bQ
 have aG := ae.mono aG aE.mono S1.bQ
 have QB := aM.mono QB (fun _ _ hh => (fG .i64) _ _ _ _ S1.bQ hh)
 have fu := lq.mono fu S1.bQ
 have oq := ae.mono oq ub S1.bQ
 have jI := aM.mono jI (fun _ _ hh => ub _ _ _ _ S1.bQ hh)
 have wS := Sub.trans wS S1.bQ
 have S := S.ni S1
 have S := S.f3
 have S := S.f2
 have S := S.f2
 have S := S.f7
 have S := S.f7
 have S := S.f7
 have S := S.f6
 have S := S.f7
 have S := S.f8
 obtain ⟨wR, aj3, M⟩ := bind_some M
 refine HJ (fun (s : (List Bool) × (List Bool) × (List Int)) (x : Int × Int) => Dc N v2 ku s.1 s.2.1 s.2.2 v1 x.1 x.2 (fun f m0 m1 m2 => some ((m0, m1, m2), f))) (fun (s : (List Bool) × (List Bool) × (List Int)) (g h : AH) (Γ : List Ob) => ∃ (ff : Value) (fM : Value) (gA : List (List Value)) (fw : Value) (iB : List (List Value)), Γ = [.bx dO [dK], .bx Y0 [(vi ku)], .bx cX [ff], .bx gZ [fM], .sl 4 1 fM gA, .bx iT [fw], .sl 3 1 fw iB, .bx ar [(.string v1.aO), (.string v1.aP), (vi v1.fArgs), (vi v1.aK), (vi v1.aL), aw, ax]] ∧ ae rB 1 g ff s.1 ∧ aM (rB g) gA s.2.1 ∧ aM ((rI .i64) g) iB s.2.2 ∧ lq w0 g dK v2 ∧ ae aq.rep 4 g aw v1.aa ∧ ae aE.rep 3 g ax v1.aB) qR (fun s g h Γ g' h' hd sb => by obtain ⟨u0, u1, u2, u3, u4, e, z0, z1, z2, z3, z4, z5⟩ := hd; exact ⟨u0, u1, u2, u3, u4, e, ae.mono z0 ub sb, aM.mono z1 (fun _ _ hh => ub _ _ _ _ sb hh), aM.mono z2 (fun _ _ hh => (fG .i64) _ _ _ _ sb hh), lq.mono z3 sb, ae.mono z4 aq.mono sb, ae.mono z5 aE.mono sb⟩) S ⟨ff, fM, gA, Iw, aj2, rfl, oq, jI, QB, fu, aA, aG⟩ aj3 (fun lo n q s x s2 f R g2 h2 Γ2 sub S D1 bm kk => ?_) (fun mJ g h Γ2 sg S D1 => ?_)
 · obtain ⟨ff, fM, gA, fw, iB, rfl, aj4, aj5, aj6, Ii, Y1, Y2⟩ := D1
   show EA w0 kM R (al dO 0) (al Y0 0) (al cX 0) (al gZ 0) (al iT 0) lo n (vi x.1) (vi x.2) h2
   exact ajW bm S Ii aj4 aj5 aj6 Y1 Y2 (Sub.refl g2) (fun e sb S3 aj7 aj8 aj9 => by cases e; exact kk _ _ _ sb S3 ⟨_, _, _, _, _, rfl, aj7, aj8, aj9, (lq.mono Ii sb), (ae.mono Y1 aq.mono sb), (ae.mono Y2 aE.mono sb)⟩)
 · obtain ⟨aka, am4, am5, am6, am7, rfl, Y3, akb, akc, _, _, _⟩ := D1
   have aA := ae.mono aA aq.mono sg
   have aG := ae.mono aG aE.mono sg
   have qR := qV.mono qR sg
   have fu := lq.mono fu sg
   have wS := Sub.trans wS sg
   cases hf : wR.2 with
   | go =>
    rw [hf] at M
    have M := HC M
    refine HE ?_
    have S := S.f5
    have S := S.f5
    have S := S.f5
    have S := S.f4
    have S := S.f8
    have S := S.f8
    have S := S.f8
    have S := S.t8
    exact QA M wS S akc Y3 akb
   | ret =>
    rw [hf] at M
    have M := HD M
    refine HF ?_
    refine S.gC (fun h S => ?_)
    refine S.bj 2 rfl rfl ?_
    cases M
    exact H _ _ aka S.bJ Y3
   | ex j =>
    rw [hf] at M
    cases M
theorem akd {w0 : World} {c : Cx} {g h : AH} {E R : Value → W} {r : (List Bool)} {N : Nat} {v8 v3 : List Bool} {gZ : Nat} {fM : Value} {gA : List (List Value)} {cX : Nat} {ff : Value} {d16 : List Nat}  (M : Ir N v8 v3 = some r) (S : Sep c g h [.bx gZ [fM], .sl 4 1 fM gA, .bx cX [ff], .ds d16]) (jI : aM (rB g) gA v8) (oq : ae rB 1 g ff v3)  (H : Df c R r) : Ey w0 E R (al gZ 0) (al cX 0) d16 h := by
 unfold Ey
 unfold Ir at M
 refine S.bj 0 rfl rfl ?_
 have S := S.f2
 refine S.cv [fM] [fM] (lj (S.gX 2 rfl)) rfl (ab (S.gX 2 rfl) rfl) (Nat.le_of_ble_eq_true rfl) rfl (fun h S => ?_)
 have S := S.f3
 refine S.gC (fun h S => ?_)
 refine S.bj 0 rfl rfl ?_
 have S := S.f2
 obtain ⟨g, sg, S, ake⟩ := S.fz jI ub
 cases M
 exact H _ _ fM S.bJ ake
theorem akf {w0 : World} {c : Cx} {g h : AH} {E R : Value → W} {r : (List Bool)} {N : Nat} {v11 : List Int} {v1 : ag} {v2 : Int → Int → Int → Option Bool} {v3 v8 : List Bool} {iT : Nat} {fw : Value} {iB : List (List Value)} {ar : Nat} {aw ax : Value} {dO : Nat} {dK : Value} {cX : Nat} {ff : Value} {gZ : Nat} {fM : Value} {gA : List (List Value)} {d21 : List Nat} {rv : List Nat → W} {fq : (List Int) → (List Bool) → (List Bool) → Option ((List Bool))} {Di : AH} (M : Dd N v11 v1 v2 v3 v8 fq = some r) (S : Sep c g h [.bx iT [fw], .sl 3 1 fw iB, .bx ar [(.string v1.aO), (.string v1.aP), (vi v1.fArgs), (vi v1.aK), (vi v1.aL), aw, ax], .bx dO [dK], .bx cX [ff], .bx gZ [fM], .sl 4 1 fM gA, .ds d21]) (j2 : aM ((rI .i64) g) iB v11) (aA : ae aq.rep 4 g aw v1.aa) (aG : ae aE.rep 3 g ax v1.aB) (fu : lq w0 g dK v2) (oq : ae rB 1 g ff v3) (jI : aM (rB g) gA v8) (wS : Sub Di g) (QA : ∀ {av : List Nat} {pz : List Int} {Dj : Value} {Dk : List (List Value)} {fT : List Bool} {pE : Value} {lR : List Bool} {pF : Value} {pG : List (List Value)} {g2 h2 : AH}, fq pz fT lR = some r → Sub Di g2 → Sep c g2 h2 [.bx iT [Dj], .sl 3 1 Dj Dk, .bx ar [(.string v1.aO), (.string v1.aP), (vi v1.fArgs), (vi v1.aK), (vi v1.aL), aw, ax], .bx dO [dK], .bx cX [pE], .bx gZ [pF], .sl 4 1 pF pG, .ds av] → aM ((rI .i64) g2) Dk pz → ae rB 1 g2 pE fT → aM (rB g2) pG lR → rv av h2) (H : Df c R r) : zV w0 E R (al iT 0) (al ar 0) (al dO 0) (al cX 0) (al gZ 0) rv d21 h := by
 unfold zV
 unfold Dd at M
 refine S.bj 0 rfl rfl ?_
 refine S.Hz 1 rfl j2 ?_
 refine oY.2 ?_
 refine bK (fun hc => ?_) (fun hc => ?_)
 · have M := aV hc M
   exact ajZ M S j2 aA aG fu oq jI wS QA H
 · have M := aX hc M
   have S := S.f7
   have S := S.f5
   have S := S.f7
   have S := S.f7
   have S := S.t4
   exact akd M S jI oq H
theorem akg {w0 : World} {c : Cx} {E R : Value → W} {r : (List Bool)} {N : Nat} {v1 : ag} {v2 : Int → Int → Int → Option Bool} {iT ar : Nat} {aw ax : Value} {dO : Nat} {dK : Value} {cX gZ : Nat}   (H : Df c R r) : ∀ (n : Nat) {v11 : List Int} {v3 v8 : List Bool} {fw : Value} {iB : List (List Value)} {ff fM : Value} {gA : List (List Value)} {d21 : List Nat} {g h : AH}, zx N v1 v2 n v11 v3 v8 = some r → Sep c g h [.bx iT [fw], .sl 3 1 fw iB, .bx ar [(.string v1.aO), (.string v1.aP), (vi v1.fArgs), (vi v1.aK), (vi v1.aL), aw, ax], .bx dO [dK], .bx cX [ff], .bx gZ [fM], .sl 4 1 fM gA, .ds d21] → aM ((rI .i64) g) iB v11 → ae aq.rep 4 g aw v1.aa → ae aE.rep 3 g ax v1.aB → lq w0 g dK v2 → ae rB 1 g ff v3 → aM (rB g) gA v8 → jX (α := (Unit) × List Nat) (fun k a => zV w0 E R (al iT 0) (al ar 0) (al dO 0) (al cX 0) (al gZ 0) (fun  q => k ((), q)) a.2) n ((), d21) h := by
 intro n
 induction n with
 | zero =>
  intro v11 v3 v8 fw iB ff fM gA d21 g h M S j2 aA aG fu oq jI
  unfold zx at M; cases M
 | succ n ih =>
  intro v11 v3 v8 fw iB ff fM gA d21 g h M S j2 aA aG fu oq jI
  exact akf M S j2 aA aG fu oq jI  (Sub.refl g) (fun M2 sub S2 akh aki akj => ih M2 S2 akh (ae.mono aA aq.mono sub) (ae.mono aG aE.mono sub) (lq.mono fu sub) aki akj ) H
theorem akk {w0 : World} {g h : AH} {Q : CR → AH → Prop} {r : (List Bool)} {N : Nat} {x0 : ag} {x1 : Int → Int → Int → Option Bool} {cx cy bS : Value} (M : De N x0 x1 = some r) (sg : Sub g h) (ok : h.Ok) (cu : ae aq.rep 4 g cx x0.aa) (cD : ae aE.rep 3 g cy x0.aB) (bX : lq w0 g bS x1) (H : Df ⟨g, h, []⟩ (fun v => Q (.ret v)) r) : WF PP w0 JV [(.agg ⟨[(.string x0.aO), (.string x0.aP), (vi x0.fArgs), (vi x0.aK), (vi x0.aL), cx, cy]⟩), bS] h Q := by
 refine aa0 _ _ ?_
 have S := Sep.start sg ok
 unfold R0
 unfold De at M
 have S : Sep _ g h [.ds ([] : List Nat)] := S.HI
 refine S.box [(.string x0.aO), (.string x0.aP), (vi x0.fArgs), (vi x0.aK), (vi x0.aL), cx, cy] rfl (ab rfl (ab rfl (ab rfl (ab rfl (ab rfl (ab cu.one (ab cD.one rfl))))))) (fun jF h S => ?_)
 refine S.box [bS] (lj bX.1) (ab bX.1 rfl) (fun wG h S => ?_)
 refine S.alloc (l := [bN]) (ab rfl rfl) (fun wq h S => ?_)
 refine cr.2 ?_
 refine S.bj 2 rfl rfl ?_
 refine cu.len ?_
 obtain ⟨akl, M⟩ := qQ M
 refine S.mks akl rfl (ab rfl rfl) (fun zu h S => ?_)
 have zv : aM (rB g) (List.replicate (x0.aa.length : Int).toNat [(.bool false)]) (List.replicate (x0.aa.length : Int).toNat false) := aM.Xy (show rB g [(.bool false)] false from rfl) _
 refine S.alloc (l := [bN]) (ab rfl rfl) (fun b_7 h S => ?_)
 refine S.cv [zu] [zu] (lj (S.gX 1 rfl)) rfl (ab (S.gX 1 rfl) rfl) (Nat.le_of_ble_eq_true rfl) rfl (fun h S => ?_)
 refine S.ue [[(vi 0)]] (cJ (m := [(vi 0)]) (l2 := [(vi 0)]) rfl rfl (Nat.le_of_ble_eq_true rfl) rfl rfl) rfl (by decide) (uh rfl ug) (ab rfl rfl) (fun Ix h S => ?_)
 have A_9 : aM ((rI .i64) g) [[(vi 0)]] [0] := (aM.push aM.nil (show (rI .i64) g [(vi 0)] 0 from rfl))
 refine S.alloc (l := [bN]) (ab rfl rfl) (fun akm h S => ?_)
 refine S.cv [Ix] [Ix] (lj (S.gX 1 rfl)) rfl (ab (S.gX 1 rfl) rfl) (Nat.le_of_ble_eq_true rfl) rfl (fun h S => ?_)
 refine S.bj 2 rfl rfl ?_
 obtain ⟨ajM, akn, M⟩ := bind_some M
 refine S.og 3 rfl zv akn (fun am8 am9 vs Pk ako rp => ?_)
 cases rp
 have S := S.f3
 refine S.HA (j := 0) [(.bool true)] Pk ako rfl rfl (ab rfl rfl) (by decide) (fun h S => ?_)
 have akp : aM (rB g) ((List.replicate (x0.aa.length : Int).toNat [(.bool false)]).set (0 : Int).toNat [(.bool true)]) ((List.replicate (x0.aa.length : Int).toNat false).set (0 : Int).toNat true) := aM.set zv (show rB g [(.bool true)] true from rfl) (0 : Int).toNat
 have S : Sep _ g h [.sl 4 1 zu ((List.replicate (x0.aa.length : Int).toNat [(.bool false)]).set (0 : Int).toNat [(.bool true)]), .bx akm [Ix], .sl 3 1 Ix [[(vi 0)]], .bx b_7 [zu], .bx wq [bN], .bx wG [bS], .bx jF [(.string x0.aO), (.string x0.aP), (vi x0.fArgs), (vi x0.aK), (vi x0.aL), cx, cy], .ds ([] : List Nat)] := S
 have S := S.f7
 have S := S.f1
 have S := S.f4
 have S := S.f5
 have S := S.f6
 have S := S.f7
 have S := S.f7
 have S := S.f7
 exact ⟨N, akg  H _ M S A_9 cu cD bX ae.nil akp ⟩
def uL (x0 : Int) (x1 : Int) (x2 : Int) : Option Bool :=
 some true
abbrev akq (c : Cx) (R : Value → W) (r : Bool) : Prop := ∀ (g' h' : AH), Sep c g' h' [] → R (.bool r) h'
theorem akr {w0 : World} {g h : AH} {Q : CR → AH → Prop} {r : Bool} {x0 x1 x2 : Int} (M : uL x0 x1 x2 = some r) (sg : Sub g h) (ok : h.Ok)  (H : akq ⟨g, h, []⟩ (fun v => Q (.ret v)) r) : WF PP w0 EC [(vi x0), (vi x1), (vi x2)] h Q := by
 refine aa2 _ _ _ ?_
 have S := Sep.start sg ok
 unfold R3
 unfold uL at M
 cases M
 exact H _ _  S.bJ
def QC (N : Nat) (v1 : ag)  : Option ((List Bool)) :=
(De N v1 (fun a0 a1 a2 => uL a0 a1 a2)).bind fun pg =>
 some pg
def yI (N : Nat) (x0 : ag) : Option ((List Bool)) :=
(sH N x0).bind fun bD =>
 bif (!bD) then (
 some ([] : List Bool)) else (
 QC N x0)
abbrev Y4 (c : Cx) (R : Value → W) (r : (List Bool)) : Prop := ∀ (g' h' : AH) (w1 : Value), Sep c g' h' [] → ae rB 1 g' w1 r → R w1 h'
theorem aks {w0 : World} {c : Cx} {g h : AH} {E R : Value → W} {r : (List Bool)} {N : Nat} {v1 : ag} {ar : Nat} {aw ax : Value}  (M : QC N v1 = some r) (S : Sep c g h [.bx ar [(.string v1.aO), (.string v1.aP), (vi v1.fArgs), (vi v1.aK), (vi v1.aL), aw, ax]]) (aA : ae aq.rep 4 g aw v1.aa) (aG : ae aE.rep 3 g ax v1.aB)  (H : Y4 c R r) : JW w0 E R (al ar 0) h := by
 unfold JW
 unfold QC at M
 refine S.c8 [(.string v1.aO), (.string v1.aP), (vi v1.fArgs), (vi v1.aK), (vi v1.aL), aw, ax] 0 rfl rfl rfl (by decide) ?_
 have Pz : lq w0 g (fc EC) (fun a0 a1 a2 => uL a0 a1 a2) := ⟨rfl, fun a0 a1 a2 r E K g2 h2 s1 s2 s3  m1 k1 => akr m1 s2 s3 k1⟩
 obtain ⟨pg, wI, M⟩ := bind_some M
 refine akk wI S.sub S.ok aA aG Pz (fun g h w_7 S1 F_8 => ?_)
 have aA := ae.mono aA aq.mono S1.bQ
 have aG := ae.mono aG aE.mono S1.bQ
 have S := S.ni S1
 cases M
 exact H _ _ w_7 S.bJ F_8
theorem Xb {w0 : World} {g h : AH} {Q : CR → AH → Prop} {r : (List Bool)} {N : Nat} {x0 : ag} {cx cy : Value} (M : yI N x0 = some r) (sg : Sub g h) (ok : h.Ok) (cu : ae aq.rep 4 g cx x0.aa) (cD : ae aE.rep 3 g cy x0.aB) (H : Y4 ⟨g, h, []⟩ (fun v => Q (.ret v)) r) : WF PP w0 ED [(.agg ⟨[(.string x0.aO), (.string x0.aP), (vi x0.fArgs), (vi x0.aK), (vi x0.aL), cx, cy]⟩)] h Q := by
 refine aa3 _ ?_
 have S := Sep.start sg ok
 unfold R4
 unfold yI at M
 refine S.box [(.string x0.aO), (.string x0.aP), (vi x0.fArgs), (vi x0.aK), (vi x0.aL), cx, cy] rfl (ab rfl (ab rfl (ab rfl (ab rfl (ab rfl (ab cu.one (ab cD.one rfl))))))) (fun jF h S => ?_)
 refine S.c8 [(.string x0.aO), (.string x0.aP), (vi x0.fArgs), (vi x0.aK), (vi x0.aL), cx, cy] 0 rfl rfl rfl (by decide) ?_
 obtain ⟨bD, jE, M⟩ := bind_some M
 refine CA jE S.sub S.ok cu cD (fun _ h  S1  => ?_)
 have S := S.eo S1
 refine fy.2 ?_
 refine bK (fun hc => ?_) (fun hc => ?_)
 · have M := aV hc M
   cases M
   exact H _ _ bN S.bJ ae.nil
 · have M := aX hc M
   exact aks M S cu cD H
end
end Go.Ve.T
