/- Part 8: VEval, part 32: operations that came later: strings joined, compared, cut; the capacity of a slice. No condition. -/
import Derived.Test.YteeibihhdldjfaaGreatDoorVeG
import Derived.Laws.Concat
import Derived.Lib.Strings
set_option linter.unusedVariables false
set_option linter.unusedSimpArgs false
namespace Go.Ve
open Go.RowKit
section
variable {P : Program} {w0 w : World} {φ : aE} {h : AH} {ρ : Operand → Value} {o : Oper} {vs : List Value} {k : KV}
theorem WT : ∀ (l m : List UInt8) (k : List UInt8 → Bool), q9 l m k = k (l ++ m)
 | [], m, k => rfl
 | x :: l, m, k => by show q9 l m (fun l' => k (x :: l')) = _; rw [WT l m]; rfl
theorem WU : ∀ (l : List UInt8) (n : Nat) (k : List UInt8 → Bool), FH l n k = k (l.take n)
 | [], n, k => by simp [FH]
 | x :: l, 0, k => rfl
 | x :: l, n + 1, k => by show FH l n (fun l' => k (x :: l')) = _; rw [WU l n]; rfl
theorem WV : ∀ (l : List UInt8) (n : Nat) (k : List UInt8 → Bool), FI l n k = k (l.drop n)
 | [], n, k => by simp [FI]
 | x :: l, 0, k => rfl
 | x :: l, n + 1, k => by show FI l n k = _; rw [WV l n]; rfl
theorem WW : ∀ (l m : List UInt8), vq l m = Op.bytesLess l m
 | [], [] => rfl
 | _ :: _, [] => rfl
 | [], _ :: _ => rfl
 | a :: l, b :: m => by
  simp only [vq, Op.bytesLess, WW l m]
  rw [sC]
  by_cases h1 : a < b
  · have h2 : a.toNat + 1 ≤ b.toNat := UInt8.lt_iff_toNat_lt.1 h1
    have : decide (a.toNat.succ ≤ b.toNat) = true := decide_eq_true h2
    rw [this]; simp [h1]
  · have h2 : ¬ (a.toNat + 1 ≤ b.toNat) := fun h => h1 (UInt8.lt_iff_toNat_lt.2 h)
    have : decide (a.toNat.succ ≤ b.toNat) = false := decide_eq_false h2
    rw [this]
    by_cases e : a = b
    · subst e; simp [h1]
    · rw [eO (fun h => e (UInt8.toNat_inj.1 h))]; simp [h1, e]
theorem adr {t u : TypeId} {x y : Operand} (ho : o.op = .binOp .add t x y u) (H : HR P w0 φ h w) (hv : LR φ vs ([x, y].map ρ)) (e : VD vs h k = true) : PR P w0 φ h ((execOp ρ o).run P w) fun v h' => k v h' = true := by
 obtain ⟨p, q, al, e1⟩ := gm e; clear e; subst al; have e := e1; clear e1
 obtain ⟨p', q', hp, hr, hq⟩ := hv.two
 simp at hp; obtain ⟨e1, e2⟩ := hp; subst e1 e2
 obtain ⟨a, al, e1⟩ := kb e; clear e; subst al; have e := e1; clear e1
 obtain ⟨b, al, e1⟩ := kb e; clear e; subst al; have e := e1; clear e1
 have hg : (eqGuard .add t x y (.string a) (.string b)).run P w = .ok () w := by
  unfold eqGuard
  split <;> simp
 have hx := hr.ja
 have hy := hq.ja
 obtain ⟨hn, e1⟩ := bV e
 have hn := Nat.le_of_ble_eq_true hn
 rw [WT] at e1
 have hs : a.size + b.size ≤ 9223372036854775807 := hn
 have mE : a ++ b = ⟨⟨a.data.toList ++ b.data.toList⟩⟩ := by
  apply ByteArray.ext
  rw [ByteArray.data_append]
  apply Array.ext'
  simp
 refine .same H (v' := .string (a ++ b)) ?_ (by rw [mE]; exact .str _) e1
 simp only [execOp, ho, hx, hy]
 have bO := run_string_add_sum (P := P) w a b hs
 simp [hg, binOp, bO]
theorem ads {op : BinOp} {t u : TypeId} {x y : Operand} (ho : o.op = .binOp op t x y u) (H : HR P w0 φ h w) (hv : LR φ vs ([x, y].map ρ)) (e : VE op vs h k = true) : PR P w0 φ h ((execOp ρ o).run P w) fun v h' => k v h' = true := by
 obtain ⟨p, q, al, e1⟩ := gm e; clear e; subst al; have e := e1; clear e1
 obtain ⟨p', q', hp, hr, hq⟩ := hv.two
 simp at hp; obtain ⟨e1, e2⟩ := hp; subst e1 e2
 obtain ⟨a, al, e1⟩ := kb e; clear e; subst al; have e := e1; clear e1
 obtain ⟨b, al, e1⟩ := kb e; clear e; subst al; have e := e1; clear e1
 have hg : (eqGuard op t x y (.string a) (.string b)).run P w = .ok () w := by
  unfold eqGuard
  split <;> simp
 have hx := hr.ja
 have hy := hq.ja
 cases op <;> simp only [VC, q7, cond_false] at e <;> first | (cases e; done) | skip
 all_goals
  rw [ia] at e
  simp only [eqStr, WW] at e
  rw [← ByteArray.toList_eq, ← ByteArray.toList_eq] at e
  exact .same H (by simp only [execOp, ho, hx, hy]; simp [hg, binOp, Op.stringOp]) (.bool _) e
theorem ado {t : TypeId} {x : Operand} {lo hi : Option Operand} (ho : o.op = .slice t x lo hi none) (hu : P.underlying t = some .string)
 (H : HR P w0 φ h w) (hv : LR φ vs ((x :: (lo.toList ++ hi.toList)).map ρ)) (e : Nl lo.isSome hi.isSome vs h k = true) : PR P w0 φ h ((execOp ρ o).run P w) fun v h' => k v h' = true := by
 cases vs with
 | nil => cases e
 | cons v vs =>
  simp only [List.map_cons] at hv
  cases hv with | cons _ v' _ l' hr hv =>
  unfold Nl at e
  dsimp only at e
  obtain ⟨s, al, e1⟩ := kb e; clear e; subst al
  have hx := hr.ja
  obtain ⟨l, EU, e2, qN, hl⟩ := pX e1 hv
  obtain ⟨hh, NQ, e3, mG, vE⟩ := pX (x := hi) (rest := []) e2 (by simpa using qN)
  obtain ⟨c1, e4⟩ := bV e3
  simp only [Bool.and_eq_true] at c1
  obtain ⟨⟨_, c1⟩, c2⟩ := c1
  have c1 := Nat.le_of_ble_eq_true c1
  have c2 := Nat.le_of_ble_eq_true c2
  rw [WV, WU] at e4
  have hb := Ga (P := P) (w := w) (isS := false) (len := s.size) (cap := s.size) (m := s.size) (mx := none) (fun h => by cases h) hl vE (.inl ⟨rfl, rfl⟩) c1 c2 (Nat.le_refl _)
  simp only [Option.map_none] at hb
  have hex : s.extract l hh = ⟨⟨(s.data.toList.drop l).take (Nat.sub hh l)⟩⟩ := by
   apply ByteArray.ext
   apply Array.ext'
   exact Go.Lib.extract_data s l hh
  refine .same H (v' := .string (s.extract l hh)) ?_ (by rw [hex]; exact .str _) e4
  simp only [execOp, ho, hx]
  simp only [Instr.sliceAt, Instr.slice, Sem.run_bind, run_underlying hu, Result.andThen_ok, Option.map_none]
  simp [hb]
theorem adP {c : Call} {x : Operand} {t e' : TypeId} (ho : o.op = .call c) (hc : c.callee = .builtin .cap) (ha : c.args = #[x]) (ht : c.argTypes[0]? = some t) (hu : P.underlying t = some (.slice e')) (H : HR P w0 φ h w) (hv : LR φ vs ([x].map ρ)) (e : VF vs h k = true) : PR P w0 φ h ((execOp ρ o).run P w) fun v h' => k v h' = true := by
 obtain ⟨p, al, e1⟩ := dX e; clear e; subst al; have e := e1; clear e1
 obtain ⟨p', hp, hr⟩ := hv.one
 simp at hp; subst hp
 rcases oe e with ⟨l, c', al, e1⟩ | ⟨a, l, c', al, e1⟩ <;> (clear e; subst al)
 · obtain ⟨rfl, rfl, hx⟩ := hr.pD
   refine .same H ?_ (.int _ _) e1
   rw [j9 ho hc]
   simp [builtin, Builtin.cap_, ha, ht, hx, run_underlying hu, goInt]
 · obtain ⟨a', WX, hx, _, gN⟩ := hr.ni
   obtain ⟨bG, e2⟩ := bV e1
   have bG : c' < aU := Nat.le_of_ble_eq_true bG
   obtain rfl : WX = c' := by
    rcases gN with ⟨_, h2, _⟩ | ⟨sz, h1, _⟩
    · exact h2
    · omega
   refine .same H ?_ (.int _ _) e2
   rw [j9 ho hc]
   simp [builtin, Builtin.cap_, ha, ht, hx, run_underlying hu, goInt]
end
end Go.Ve
