/- Part 4: VEval, part 5: each operation of the evaluator stands for the machine's own, first half. No condition. -/
import Derived.Test.YteeibihhdldjfaaGreatDoorVeC
import Derived.IntWalk
import Derived.Laws.StructEq
import Derived.Laws.RangeString
import Derived.WideLaws
set_option linter.unusedVariables false
set_option linter.unusedSimpArgs false
namespace Go.Ve
open Go.RowKit
def PR (P : Program) (w0 : World) (φ : ak) (h : AH) (r : Result Next) (Q : Value → AH → Prop) : Prop :=
 ∃ v' w' v h' φ', (r = .ok (.value v') w' ∨ (r = .ok .skip w' ∧ v' = undef)) ∧ Q v h' ∧ Ext h.nx φ φ' ∧ h.nx ≤ h'.nx ∧ VR φ' v v' ∧ HR P w0 φ' h' w'
section
variable {P : Program} {w0 w : World} {φ : ak} {h : AH} {ρ : Operand → Value} {o : Oper} {vs : List Value} {k : KV}
theorem PR.same {r : Result Next} {Q : Value → AH → Prop} (H : HR P w0 φ h w) {v v' : Value} (hr : r = .ok (.value v') w) (hv : VR φ v v') (hq : Q v h) : PR P w0 φ h r Q :=
 ⟨v', w, v, h, φ, .inl hr, hq, Ext.refl _ _, Nat.le_refl _, hv, H⟩
theorem hY {t : TypeId} {i : TypeInfo} (hi : P.info? t = some i) (w : World) : (sizeOf t).run P w = .ok i.size w := by simp [sizeOf, typeInfo, hi]
theorem oO {t : TypeId} {i : TypeInfo} {z : Value} (hi : P.info? t = some i) (hz : i.zero = some z) (w : World) : (zeroValue t).run P w = .ok z w := by simp [zeroValue, typeInfo, hi, hz]
theorem qj {t : TypeId} {d : TypeDesc} (hu : P.underlying t = some d) (w : World) : (isAgg t).run P w = .ok (kR d) w := by
 cases d <;> simp [isAgg, run_underlying hu, kR]
theorem j7 {t : TypeId} {s : Nat} (h : dL P t = some s) : ∃ i, P.info? t = some i ∧ i.size = s := by
 unfold dL at h
 cases hi : P.info? t with
 | none => simp [hi] at h
 | some i => exact ⟨i, rfl, by simpa [hi] using h⟩
theorem mC {t : TypeId} {z : Value} (h : zeroOf P t = some z) : ∃ i, P.info? t = some i ∧ i.zero = some z ∧ vS z = true := by
 unfold zeroOf at h
 split at h
 · rename_i i hi
   split at h
   · rename_i z' hz
     split at h
     · cases h; exact ⟨i, hi, hz, by assumption⟩
     · cases h
   · cases h
 · cases h
theorem Ug {v : Value} (h : DU v = true) : VR φ v v := by
 unfold DU at h
 split at h <;> first
  | (constructor; done)
  | (simp only [Bool.and_eq_true, beq_iff_eq] at h; obtain ⟨rfl, rfl⟩ := h; exact .kM)
  | cases h
theorem LR.Uh : ∀ {l : List Value}, (∀ v ∈ l, VR φ v v) → LR φ l l
 | [], _ => .nil
 | v :: l, h => .cons v v l l (h v (by simp)) (LR.Uh fun u hu => h u (by simp [hu]))
theorem nM {v : Value} (h : vS v = true) : VR φ v v := by
 unfold vS at h
 split at h
 · exact .agg _ _ (LR.Uh fun u hu => Ug (List.all_eq_true.1 h u hu))
 · rename_i f a b
   simp only [Bool.and_eq_true, Array.isEmpty_iff] at h
   obtain ⟨rfl, rfl⟩ := h
   exact .func _ _ _ _ _ _ (.func f) .nil .nil
 · exact Ug h
theorem Ui (n : Int) (h1 : -9223372036854775808 ≤ n) (h2 : n ≤ 9223372036854775807) : n = IntKind.i64.wrap n := by rw [IntKind.wrap_i64]; omega
theorem Uj {a : Nat} (h : Nat.ble a ql = true) : a ≤ 9223372036854775807 := Nat.le_of_ble_eq_true h
theorem Uk {α : Type} {c : Bool} {a b x : α} (h1 : c = true → a = x) (h2 : c = false → b = x) : (bif c then a else b) = x := by
 cases c
 · exact h2 rfl
 · exact h1 rfl
theorem wV (k : IntKind) (n : Int) : bD k n = k.wrap n := by
 cases k
 case i64 =>
  cases n with
  | ofNat a =>
   exact Uk (c := Nat.ble a ql) (fun hb => by
    have h1 := Uj hb
    exact Ui _ (by simp only [Int.ofNat_eq_natCast]; omega) (by simp only [Int.ofNat_eq_natCast]; omega)) (fun _ => rfl)
  | negSucc a =>
   exact Uk (c := Nat.ble a ql) (fun hb => by
    have h1 := Uj hb
    exact Ui _ (by omega) (by omega)) (fun _ => rfl)
 all_goals rfl
theorem pZ (a b : Int) : ke a b = (a == b) := by
 cases a <;> cases b <;> simp only [ke]
 · rename_i a b
   by_cases e : a = b
   · subst e; simp
   · rw [ep e]; symm; simp; omega
 · rfl
 · rfl
 · rename_i a b
   by_cases e : a = b
   · subst e; simp
   · rw [ep e]; symm; simp; exact e
theorem rv (a b : Nat) : Nat.ble a b = decide (a ≤ b) := by
 cases h : Nat.ble a b with
 | true => simp [Nat.le_of_ble_eq_true h]
 | false => symm; simp only [decide_eq_false_iff_not]; exact fun hle => by rw [Nat.ble_eq_true_of_le hle] at h; cases h
theorem vQ (a b : Int) : lx a b = decide (a < b) := by
 cases a <;> cases b <;> simp only [lx, rv]
 · rename_i a b
   rw [decide_eq_decide]; simp only [Int.ofNat_eq_natCast]; omega
 · symm; simp only [decide_eq_false_iff_not, Int.ofNat_eq_natCast]; omega
 · symm; simp only [decide_eq_true_eq, Int.ofNat_eq_natCast]; omega
 · rename_i a b
   rw [decide_eq_decide]; omega
theorem Ul (a b : Int) : decide (a ≤ b) = !decide (b < a) := by by_cases h : b < a <;> simp [h] <;> omega
theorem lZ {a b : IntKind} (h : eP a b = true) : a = b := by cases a <;> cases b <;> first | rfl | cases h
theorem J7 : ∀ (l m : List UInt8), mc l m = (l == m)
 | [], [] => rfl
 | [], _ :: _ => rfl
 | _ :: _, [] => rfl
 | a :: l, b :: m => by
  simp only [mc, List.cons_beq_cons]
  by_cases e : a = b
  · subst e; simp [J7 l m]
  · rw [ep (fun h => e (UInt8.toNat_inj.1 h))]; symm; simp [e]
theorem eqStr (a b : ByteArray) : mc a.data.toList b.data.toList = (a.toList == b.toList) := by
 rw [J7, ByteArray.toList_eq, ByteArray.toList_eq]
theorem QD {x : Operand} (ho : o.op = .move x ∨ o.op = .assign x) (H : HR P w0 φ h w) (hv : LR φ vs ([x].map ρ)) (e : Jy vs h k = true) : PR P w0 φ h ((execOp ρ o).run P w) fun v h' => k v h' = true := by
 obtain ⟨a, ag, e'⟩ := dO e; clear e; subst ag; have e := e'; clear e'
 obtain ⟨a', ha, hr⟩ := hv.one
 simp at ha; subst ha
 rcases ho with ho | ho <;> exact .same H (by simp [execOp, ho]) hr e
theorem aab {c a b : Operand} (ho : o.op = .pick c a b) (H : HR P w0 φ h w) (hv : LR φ vs ([c, a, b].map ρ)) (e : Jz vs h k = true) : PR P w0 φ h ((execOp ρ o).run P w) fun v h' => k v h' = true := by
 obtain ⟨vc, va, vb, ag, e'⟩ := Qq e; clear e; subst ag; have e := e'; clear e'
 obtain ⟨t, ag, e'⟩ := yZ e; clear e; subst ag; have e := e'; clear e'
 obtain ⟨c', a', b', hx, hc, ha, hb⟩ := hv.three
 simp at hx
 obtain ⟨h1, h2, h3⟩ := hx
 subst h1 h2 h3
 have hC : ρ c = .bool t := by generalize ρ c = C at hc; cases hc; rfl
 cases t with
 | true => exact .same H (by simp [execOp, ho, asBool, hC]) ha e
 | false => exact .same H (by simp [execOp, ho, asBool, hC]) hb e
theorem PR.newRow (H : HR P w0 φ h w) {ty : TypeId} {l l' : List Value} (hl : LR φ l l') {c : NT Value} {aP : NT AO} (hc : ∀ j v, l[j]? = some v → c.get j = some v)
 (bL : h.ob.gP h.nx (some (.cells 0 l.length ty true c)) aP) :
 HR P w0 (φ.put h.nx (.live w.heap.size 0 l'.length)) ⟨h.nx + 1, aP⟩ (w.alloc (.cells l'.toArray ty)) ∧ Ext h.nx φ (φ.put h.nx (.live w.heap.size 0 l'.length)) := by
 refine H.newAt (H.fresh _ (Nat.le_refl _)) bL.1 (fun g hg _ => bL.2 g hg) (fun g hg => H.fresh g (by simp only at hg; omega)) (fun g hg => by rw [bL.2 g (by simp only at hg; omega)]; exact H.top g (by simp only at hg; omega)) (by simp) _ (Nat.le_refl _) ?_
 refine .cells _ _ _ _ _ _ _ _ _ (fun _ => rfl) (Nat.le_refl _) (by simp) fun p _ hp => ?_
 obtain ⟨u, hu, hr⟩ := LR.get hl p _ (List.getElem?_eq_getElem hp)
 exact ⟨l[p], u, hc p _ (List.getElem?_eq_getElem hp), by simpa using hu, hr⟩
theorem PR.vX {φ : ak} {f B n : Nat} : VR (φ.put f (.live B 0 n)) (av f 0) (.pointer (some ⟨B, 0, none⟩)) := by
 refine .ptr _ _ (by simp [ak.put]) fun b d n h => ?_
 simp only [ak.gj] at h
 cases h
 exact ⟨rfl, rfl, rfl⟩
theorem PR.Um {r : Result Next} (H : HR P w0 φ h w) {ty : TypeId} {l l' : List Value} (hl : LR φ l l') {k : KV} (e : jv h ty l (fun b h => k (av b 0) h) = true)
 (hr : r = .ok (.value (.pointer (some ⟨w.heap.size, 0, none⟩))) (w.alloc (.cells l'.toArray ty))) : PR P w0 φ h r fun v h' => k v h' = true := by
 obtain ⟨nL, c, aP, h1, h2, h3⟩ := pY e
 obtain ⟨g1, g2⟩ := PR.newRow H hl h1 h2
 exact ⟨_, _, _, _, _, .inl hr, h3, g2, by simp, PR.vX, g1⟩
theorem aac {ty : TypeId} {z : Value} (ho : o.op = .alloc ty) (hz : zeroOf P ty = some z) (H : HR P w0 φ h w) (e : RE ty z.cells.toList vs h k = true) : PR P w0 φ h ((execOp ρ o).run P w) fun v h' => k v h' = true := by
 obtain ⟨i, hi, hz, ej⟩ := mC hz
 obtain ⟨ag, e'⟩ := rA e; clear e; subst ag; have e := e'; clear e'
 refine PR.Um H (VR.cells (nM ej)) e ?_
 simp [execOp, ho, Instr.alloc, oO hi hz, newVar, newRow, World.alloc_eq]
theorem aad {ty : TypeId} {x : Operand} (ho : o.op = .box ty x) (H : HR P w0 φ h w) (hv : LR φ vs ([x].map ρ)) (e : RF ty vs h k = true) : PR P w0 φ h ((execOp ρ o).run P w) fun v h' => k v h' = true := by
 obtain ⟨a, ag, e'⟩ := dO e; clear e; subst ag; have e := e'; clear e'
 obtain ⟨a', ha, hr⟩ := hv.one
 simp at ha; subst ha
 rw [vY] at e
 refine PR.Um H (VR.cells hr) e ?_
 simp [execOp, ho, Instr.box, newVar, newRow, World.alloc_eq]
theorem VR.ja {a : Addr} {v' : Value} (h : VR φ (.pointer (some a)) v') : ∃ a', v' = .pointer (some a') ∧ φ a.block ≠ none ∧ AtR φ a a' := by
 cases h with | ptr _ a' h1 h2 => exact ⟨a', rfl, h1, h2⟩
theorem VR.mB {a : Addr} {l c : Nat} {v' : Value} (h : VR φ (.slice (some a) l c) v') : ∃ a' c', v' = .slice (some a') l c' ∧ φ a.block ≠ none ∧ pT φ a a' l c c' := by
 cases h with | sl _ a' _ _ c' h1 h2 => exact ⟨a', c', rfl, h1, h2⟩
theorem VR.oN {l c : Nat} {v' : Value} (h : VR φ (.slice none l c) v') : l = 0 ∧ c = 0 ∧ v' = .slice none 0 0 := by
 cases h; exact ⟨rfl, rfl, rfl⟩
theorem VR.fo {kd : IntKind} {n : Int} {v' : Value} (h : VR φ (.int kd n) v') : v' = .int kd n := by cases h; rfl
theorem VR.oM {b : Bool} {v' : Value} (h : VR φ (.bool b) v') : v' = .bool b := by cases h; rfl
theorem VR.iD {s : ByteArray} {v' : Value} (h : VR φ (.string s) v') : v' = .string s := by cases h; rfl
theorem VR.uy {a : Array Value} {v' : Value} (h : VR φ (.agg a) v') : ∃ a', v' = .agg a' ∧ LR φ a.toList a'.toList := by
 cases h with | agg _ a' h => exact ⟨a', rfl, h⟩
theorem VR.Tv {a : Array Value} {v' : Value} (h : VR φ (.tuple a) v') : ∃ a', v' = .tuple a' ∧ LR φ a.toList a'.toList := by
 cases h with | eW _ a' h => exact ⟨a', rfl, h⟩
theorem VR.CX {r : Nat} {v' : Value} (h : VR φ (.map (some r)) v') : ∃ r', v' = .map (some r') ∧ φ r ≠ none ∧ ∀ b d n, φ r = some (.live b d n) → r' = b := by
 cases h with | map _ r' h1 h2 => exact ⟨r', rfl, h1, h2⟩
theorem VR.IB {v' : Value} (h : VR φ (.map none) v') : v' = .map none := by cases h; rfl
theorem aaf {t : TypeId} {d : TypeDesc} {x : Operand} (ho : o.op = .load t x) (hu : P.underlying t = some d) (hd : kR d = false) (H : HR P w0 φ h w) (hv : LR φ vs ([x].map ρ)) (e : JA vs h k = true) : PR P w0 φ h ((execOp ρ o).run P w) fun v h' => k v h' = true := by
 obtain ⟨p, ag, e'⟩ := dO e; clear e; subst ag; have e := e'; clear e'
 obtain ⟨p', hp, hr⟩ := hv.one
 simp at hp; subst hp
 obtain ⟨a, ag, e'⟩ := j6 e; clear e; subst ag; have e := e'; clear e'
 obtain ⟨a', ha, hs, cb⟩ := hr.ja
 obtain ⟨lo, hi, ty, rw, c, v, h1, h2, h3, h4, h5⟩ := Dh e
 obtain ⟨v', hc, y0⟩ := H.cell hs cb h1 (j := 0) (by omega) (by omega) (by simpa using h4)
 refine .same H ?_ y0 h5
 have : a'.add 0 = a' := rfl
 rw [this] at hc
 simp [execOp, ho, ha, Instr.loadAt, Instr.sureAddr, loadVar, qj hu, hd, hc]
theorem aae {t : TypeId} {d : TypeDesc} {n : Nat} {x : Operand} (ho : o.op = .load t x) (hu : P.underlying t = some d) (hd : kR d = true) (hz : dL P t = some n) (H : HR P w0 φ h w) (hv : LR φ vs ([x].map ρ)) (e : JB n vs h k = true) : PR P w0 φ h ((execOp ρ o).run P w) fun v h' => k v h' = true := by
 obtain ⟨i, hi, rfl⟩ := j7 hz
 obtain ⟨p, ag, e'⟩ := dO e; clear e; subst ag; have e := e'; clear e'
 obtain ⟨p', hp, hr⟩ := hv.one
 simp at hp; subst hp
 obtain ⟨a, ag, e'⟩ := j6 e; clear e; subst ag; have e := e'; clear e'
 obtain ⟨a', ha, hs, cb⟩ := hr.ja
 obtain ⟨lo, Dg, ty, rw, c, l, h1, h2, h3, h4, h5, h6⟩ := ry e
 obtain ⟨l', hl, bF⟩ := H.cells hs cb h1 h2 (by omega) h5
 refine .same H ?_ (.agg ⟨l⟩ l'.toArray (by simpa using hl)) h6
 rw [h4] at bF
 simp [execOp, ho, ha, Instr.loadAt, Instr.sureAddr, loadVar, qj hu, hd, hY hi, bF w rfl]
theorem aag {t : TypeId} {n : Nat} {x y : Operand} (ho : o.op = .store t x y) (hz : dL P t = some n) (H : HR P w0 φ h w) (hv : LR φ vs ([x, y].map ρ)) (e : RI n vs h k = true) : PR P w0 φ h ((execOp ρ o).run P w) fun v h' => k v h' = true := by
 obtain ⟨i, hi, rfl⟩ := j7 hz
 obtain ⟨p, v, ag, e'⟩ := fF e; clear e; subst ag; have e := e'; clear e'
 obtain ⟨p', v', hp, hr, y0⟩ := hv.two
 simp at hp; obtain ⟨e1, e2⟩ := hp; subst e1 e2
 obtain ⟨a, ag, e'⟩ := j6 e; clear e; subst ag; have e := e'; clear e'
 obtain ⟨a', ha, hs, cb⟩ := hr.ja
 obtain ⟨hle, e⟩ := bJ e
 have hle := C2 _ hle
 rw [vY] at hle e
 obtain ⟨lo, Dg, ty, c, c', aP, g1, g2, g3, g4, g5, g6, g7, g8⟩ := Iy e
 have jb := VR.cells y0
 obtain ⟨w', bF, HH, _⟩ := H.write hs cb g1 g2 g3 jb g4 g5 g6 g7
 refine ⟨undef, w', undef, _, φ, .inr ⟨?_, rfl⟩, g8, Ext.refl _ _, Nat.le_refl _, VR.undef _, HH⟩
 have dW : (ρ y).cells.size = i.size := by rw [← hle, LR.length jb]; simp
 simp [execOp, ho, ha, Instr.storeAt, Instr.sureAddr, storeVar, hY hi, dW, bF]
theorem aah {x : Operand} (ho : o.op = .nilCheck x) (H : HR P w0 φ h w) (hv : LR φ vs ([x].map ρ)) (e : JC vs h k = true) : PR P w0 φ h ((execOp ρ o).run P w) fun v h' => k v h' = true := by
 obtain ⟨a, ag, e'⟩ := dO e; clear e; subst ag; have e := e'; clear e'
 obtain ⟨a', ha, hr⟩ := hv.one
 simp at ha; subst ha
 obtain ⟨h1, h2⟩ := bJ e
 refine .same H ?_ hr h2
 generalize hA : ρ x = A at hr
 simp only [execOp, ho, hA]
 cases hr with
 | func fn pU first iZ bw iA hf _ _ =>
  cases hf with
  | func f => rfl
  | method s => simp [zk] at h1
  | yield l l' _ _ => rfl
 | CU => simp [zk] at h1
 | Ir => simp [zk] at h1
 | vP => simp [zk] at h1
 | _ => rfl
theorem aai {s : TypeId} {x : Operand} {f : Nat} {fs : Array Field} {fl : Field} {sz : Nat} (ho : o.op = .fieldAddr s x f) (hu : P.underlying s = some (.struct fs)) (hf : fs[f]? = some fl) (hz : dL P fl.type = some sz) (dW : sz ≠ 0)
 (H : HR P w0 φ h w) (hv : LR φ vs ([x].map ρ)) (e : JD fl.offset vs h k = true) : PR P w0 φ h ((execOp ρ o).run P w) fun v h' => k v h' = true := by
 obtain ⟨i, hi, rfl⟩ := j7 hz
 obtain ⟨p, ag, e'⟩ := dO e; clear e; subst ag; have e := e'; clear e'
 obtain ⟨p', hp, hr⟩ := hv.one
 simp at hp; subst hp
 obtain ⟨a, ag, e'⟩ := j6 e; clear e; subst ag; have e := e'; clear e'
 rw [bH] at e
 obtain ⟨a', ha, hs, cb⟩ := hr.ja
 refine .same H (v' := .pointer (some (a'.add fl.offset))) ?_ (.ptr ⟨a.block, a.off + fl.offset, none⟩ _ hs fun b d n hl => ?_) e
 · simp [execOp, ho, ha, Instr.fieldAt, Instr.sureAddr, run_underlying hu, hf, fieldPlace, hY hi, dW]
 · obtain ⟨e1, e2, e3⟩ := cb b d n hl
   rw [kU a' e3]
   exact ⟨e1, by show a'.off + fl.offset + d = a.off + fl.offset; omega, rfl⟩
theorem aak {s : TypeId} {x : Operand} {f : Nat} {fs : Array Field} {fl : Field} {d : TypeDesc} (ho : o.op = .field s x f) (hu : P.underlying s = some (.struct fs)) (hf : fs[f]? = some fl) (hd : P.underlying fl.type = some d) (ha : kR d = false)
 (H : HR P w0 φ h w) (hv : LR φ vs ([x].map ρ)) (e : JE fl.offset vs h k = true) : PR P w0 φ h ((execOp ρ o).run P w) fun v h' => k v h' = true := by
 obtain ⟨p, ag, e'⟩ := dO e; clear e; subst ag; have e := e'; clear e'
 obtain ⟨p', hp, hr⟩ := hv.one
 simp at hp; subst hp
 obtain ⟨a, ag, e'⟩ := wJ e; clear e; subst ag; have e := e'; clear e'
 obtain ⟨a', hx, hl⟩ := hr.uy
 obtain ⟨v, h1, h2⟩ := zM _ e
 obtain ⟨v', h3, h4⟩ := LR.get hl _ _ h1
 refine .same H ?_ h4 h2
 have yG : a'[fl.offset]? = some v' := by simpa using h3
 simp [execOp, ho, hx, Instr.field, run_underlying hu, hf, asAgg, part, qj hd, ha, yG]
theorem aaj {s : TypeId} {x : Operand} {f : Nat} {fs : Array Field} {fl : Field} {d : TypeDesc} {n : Nat} (ho : o.op = .field s x f) (hu : P.underlying s = some (.struct fs)) (hf : fs[f]? = some fl) (hd : P.underlying fl.type = some d) (ha : kR d = true) (hz : dL P fl.type = some n)
 (H : HR P w0 φ h w) (hv : LR φ vs ([x].map ρ)) (e : JF fl.offset n vs h k = true) : PR P w0 φ h ((execOp ρ o).run P w) fun v h' => k v h' = true := by
 obtain ⟨i, hi, rfl⟩ := j7 hz
 obtain ⟨p, ag, e'⟩ := dO e; clear e; subst ag; have e := e'; clear e'
 obtain ⟨p', hp, hr⟩ := hv.one
 simp at hp; subst hp
 obtain ⟨a, ag, e'⟩ := wJ e; clear e; subst ag; have e := e'; clear e'
 obtain ⟨a', hx, hl⟩ := hr.uy
 obtain ⟨e, h1⟩ := D8 _ e
 obtain ⟨e, h2⟩ := D7 _ e
 refine .same H (v' := .agg (a'.extract fl.offset (fl.offset + i.size))) ?_ (.agg _ _ ?_) e
 · simp [execOp, ho, hx, Instr.field, run_underlying hu, hf, asAgg, part, qj hd, ha, hY hi]
 · have := (hl.drop fl.offset).take i.size
   simpa [Array.toList_extract, List.extract_eq_drop_take'] using this
theorem aam {t e' : TypeId} {x y : Operand} {n : Nat} (ho : o.op = .indexAddr t x y) (hu : P.underlying t = some (.slice e')) (hz : dL P e' = some n) (H : HR P w0 φ h w) (hv : LR φ vs ([x, y].map ρ)) (e : JG n vs h k = true) : PR P w0 φ h ((execOp ρ o).run P w) fun v h' => k v h' = true := by
 obtain ⟨i, hi, rfl⟩ := j7 hz
 obtain ⟨p, q, ag, e'⟩ := fF e; clear e; subst ag; have e := e'; clear e'
 obtain ⟨p', q', hp, hr, hq⟩ := hv.two
 simp at hp; obtain ⟨e1, e2⟩ := hp; subst e1 e2
 obtain ⟨kd, m, ag, e'⟩ := pX e; clear e; subst ag; have e := e'; clear e'
 rcases nK e with ⟨_, _, _, e'⟩ | ⟨a, l, c, ag, e'⟩
 · cases e'
 clear e; subst ag; have e := e'; clear e'
 obtain ⟨bz, e⟩ := bJ e
 have bz := Nat.le_of_ble_eq_true bz
 rw [bH] at e
 obtain ⟨a', c', hx, hs, hc⟩ := hr.mB
 have cb : AtR φ a a' := by
  rcases hc with ⟨h1, h2, qe, h3⟩ | ⟨sz, h1, h2, h3, h4⟩
  · exact h3 (by omega)
  · exact (h4 (by omega)).1
 have adI : m < l := bz
 refine .same H (v' := .pointer (some (a'.add (m * i.size)))) ?_ (.ptr ⟨a.block, a.off + m * i.size, none⟩ _ hs fun b d n hl => ?_) e
 · simp only [execOp, ho, hx, hq.fo]
   simp [Instr.indexAt, asIntOf, run_underlying hu, hY hi, adI]
 · obtain ⟨e1, e2, e3⟩ := cb b d n hl
   rw [kU a' e3]
   exact ⟨e1, by show a'.off + m * i.size + d = a.off + m * i.size; omega, rfl⟩
theorem aal {t e' : TypeId} {x y : Operand} {len n : Nat} (ho : o.op = .indexAddr t x y) (hu : P.underlying t = some (.array len e')) (hz : dL P e' = some n) (H : HR P w0 φ h w) (hv : LR φ vs ([x, y].map ρ)) (e : JH len n vs h k = true) : PR P w0 φ h ((execOp ρ o).run P w) fun v h' => k v h' = true := by
 obtain ⟨i, hi, rfl⟩ := j7 hz
 obtain ⟨p, q, ag, e1⟩ := fF e; clear e; subst ag; have e := e1; clear e1
 obtain ⟨p', q', hp, hr, hq⟩ := hv.two
 simp at hp; obtain ⟨e1, e2⟩ := hp; subst e1 e2
 obtain ⟨kd, m, ag, e1⟩ := pX e; clear e; subst ag; have e := e1; clear e1
 obtain ⟨a, ag, e1⟩ := j6 e; clear e; subst ag; have e := e1; clear e1
 obtain ⟨bz, e⟩ := bJ e
 have bz : m < len := Nat.le_of_ble_eq_true bz
 rw [bH] at e
 obtain ⟨a', hx, hs, cb⟩ := hr.ja
 refine .same H (v' := .pointer (some (a'.add (m * i.size)))) ?_ (.ptr ⟨a.block, a.off + m * i.size, none⟩ _ hs fun b d n hl => ?_) e
 · simp only [execOp, ho, hx, hq.fo]
   simp [Instr.indexAt, Instr.sureAddr, asIntOf, run_underlying hu, hY hi, bz]
 · obtain ⟨e1, e2, e3⟩ := cb b d n hl
   rw [kU a' e3]
   exact ⟨e1, by show a'.off + m * i.size + d = a.off + m * i.size; omega, rfl⟩
theorem aao {t e' : TypeId} {x y : Operand} {len : Nat} {d : TypeDesc} (ho : o.op = .index t x y) (hu : P.underlying t = some (.array len e')) (hd : P.underlying e' = some d) (ha : kR d = false) (hz : dL P e' = some 1) (H : HR P w0 φ h w) (hv : LR φ vs ([x, y].map ρ)) (e : JI len vs h k = true) : PR P w0 φ h ((execOp ρ o).run P w) fun v h' => k v h' = true := by
 obtain ⟨i, hi, h1⟩ := j7 hz
 obtain ⟨p, q, ag, e1⟩ := fF e; clear e; subst ag; have e := e1; clear e1
 obtain ⟨p', q', hp, hr, hq⟩ := hv.two
 simp at hp; obtain ⟨e1, e2⟩ := hp; subst e1 e2
 obtain ⟨kd, m, ag, e1⟩ := pX e; clear e; subst ag; have e := e1; clear e1
 obtain ⟨a, ag, e1⟩ := wJ e; clear e; subst ag; have e := e1; clear e1
 obtain ⟨bz, e⟩ := bJ e
 have bz : m < len := Nat.le_of_ble_eq_true bz
 obtain ⟨a', hx, hl⟩ := hr.uy
 obtain ⟨v, g1, g2⟩ := zM _ e
 obtain ⟨v', g3, g4⟩ := LR.get hl _ _ g1
 refine .same H ?_ g4 g2
 have z7 : a'[m]? = some v' := by simpa using g3
 simp only [execOp, ho, hx, hq.fo]
 simp [Instr.index, asIntOf, run_underlying hu, hY hi, h1, bz, part, qj hd, ha, z7]
theorem aan {t e' : TypeId} {x y : Operand} {len n : Nat} {d : TypeDesc} (ho : o.op = .index t x y) (hu : P.underlying t = some (.array len e')) (hd : P.underlying e' = some d) (ha : kR d = true) (hz : dL P e' = some n) (H : HR P w0 φ h w) (hv : LR φ vs ([x, y].map ρ)) (e : JJ len n vs h k = true) : PR P w0 φ h ((execOp ρ o).run P w) fun v h' => k v h' = true := by
 obtain ⟨i, hi, rfl⟩ := j7 hz
 obtain ⟨p, q, ag, e1⟩ := fF e; clear e; subst ag; have e := e1; clear e1
 obtain ⟨p', q', hp, hr, hq⟩ := hv.two
 simp at hp; obtain ⟨e1, e2⟩ := hp; subst e1 e2
 obtain ⟨kd, m, ag, e1⟩ := pX e; clear e; subst ag; have e := e1; clear e1
 obtain ⟨a, ag, e1⟩ := wJ e; clear e; subst ag; have e := e1; clear e1
 obtain ⟨bz, e⟩ := bJ e
 have bz : m < len := Nat.le_of_ble_eq_true bz
 obtain ⟨a', hx, hl⟩ := hr.uy
 obtain ⟨e, _⟩ := D8 _ e
 obtain ⟨e, _⟩ := D7 _ e
 refine .same H (v' := .agg (a'.extract (m * i.size) (m * i.size + i.size))) ?_ (.agg _ _ ?_) e
 · simp only [execOp, ho, hx, hq.fo]
   simp [Instr.index, asIntOf, run_underlying hu, hY hi, bz, part, qj hd, ha]
 · have := (hl.drop (m * i.size)).take i.size
   simpa [Array.toList_extract, List.extract_eq_drop_take'] using this
theorem aap {t : TypeId} {x y : Operand} (ho : o.op = .index t x y) (hu : P.underlying t = some .string) (H : HR P w0 φ h w) (hv : LR φ vs ([x, y].map ρ)) (e : Ds vs h k = true) : PR P w0 φ h ((execOp ρ o).run P w) fun v h' => k v h' = true := by
 obtain ⟨p, q, ag, e1⟩ := fF e; clear e; subst ag; have e := e1; clear e1
 obtain ⟨p', q', hp, hr, hq⟩ := hv.two
 simp at hp; obtain ⟨e1, e2⟩ := hp; subst e1 e2
 obtain ⟨kd, m, ag, e1⟩ := pX e; clear e; subst ag; have e := e1; clear e1
 obtain ⟨s, ag, e1⟩ := jJ e; clear e; subst ag; have e := e1; clear e1
 split at e
 · rename_i c hc
   rw [bH] at e
   refine .same H ?_ (.int _ _) e
   have hs : s[m]? = some c := by
    have h1 : m < s.data.size := by simpa using (List.getElem?_eq_some_iff.1 hc).1
    have h2 : m < s.size := h1
    rw [getElem?_pos s m h2]
    simp only [Option.some.injEq]
    have h3 : s.data[m]'h1 = c := by simpa using (List.getElem?_eq_some_iff.1 hc).2
    exact h3
   simp only [execOp, ho, hr.iD, hq.fo]
   simp [Instr.index, asIntOf, run_underlying hu, hs]
 · cases e
theorem aat {op : BinOp} {t u : TypeId} {x y : Operand} (ho : o.op = .binOp op t x y u) (H : HR P w0 φ h w) (hv : LR φ vs ([x, y].map ρ)) (e : Dt op vs h k = true) : PR P w0 φ h ((execOp ρ o).run P w) fun v h' => k v h' = true := by
 obtain ⟨p, q, ag, e1⟩ := fF e; clear e; subst ag; have e := e1; clear e1
 obtain ⟨p', q', hp, hr, hq⟩ := hv.two
 simp at hp; obtain ⟨e1, e2⟩ := hp; subst e1 e2
 obtain ⟨kx, a, ag, e1⟩ := lk e; clear e; subst ag; have e := e1; clear e1
 obtain ⟨ky, b, ag, e1⟩ := lk e; clear e; subst ag; have e := e1; clear e1
 have hg : (eqGuard op t x y (.int kx a) (.int ky b)).run P w = .ok () w := by
  unfold eqGuard
  split <;> simp
 have hx := hr.fo
 have hy := hq.fo
 have fin : ∀ {v : Value}, VR φ v v → (binOp op t (.int kx a) (.int ky b)).run P w = .ok v w → k v h = true → PR P w0 φ h ((execOp ρ o).run P w) fun v h' => k v h' = true :=
  fun IE bF hk => .same H (by simp only [execOp, ho, hx, hy]; simp [hg, bF]) IE hk
 cases op <;> simp only [Jw] at e <;> first | (cases e; done) | skip
 case shr =>
  unfold Ju at e
  split at e
  · rename_i x' y'
    cases hb : Nat.ble y' 64 with
    | false => rw [hb] at e; cases e
    | true =>
     rw [hb] at e
     simp only [cond_true, bH] at e
     have hle := Nat.le_of_ble_eq_true hb
     refine fin (.int _ _) ?_ e
     have hm : min y' 64 = y' := by omega
     have h1 : ¬ (Int.ofNat y' < 0) := by simp only [Int.ofNat_eq_natCast]; omega
     have hf : (Int.ofNat x').fdiv (2 ^ y') = Int.ofNat (Nat.shiftRight x' y') := by
      show (x' : Int).fdiv (2 ^ y') = ((x' >>> y' : Nat) : Int)
      have h2 : (2 : Int) ^ y' = ((2 ^ y' : Nat) : Int) := by simp
      rw [Nat.shiftRight_eq_div_pow, h2, Int.fdiv_eq_ediv_of_nonneg _ (Int.natCast_nonneg _), Int.natCast_ediv]
     have ht : (Int.ofNat y').toNat = y' := rfl
     simp only [binOp, Op.shift, IntKind.bits, h1, if_false, ht, hm, hf, Sem.run_pure]
  · cases e
 all_goals
  obtain ⟨hk, e2⟩ := bJ e
  clear e; have e := e2; clear e2
  obtain rfl := lZ hk
  simp only [Jt] at e
 case add => unfold Rp at e; rw [ma, wV] at e; exact fin (.int _ _) (by simp [binOp, Op.intArith]) e
 case sub => unfold Rq at e; rw [ma, wV] at e; exact fin (.int _ _) (by simp [binOp, Op.intArith]; rfl) e
 case mul => unfold Rr at e; rw [ma, wV] at e; exact fin (.int _ _) (by simp [binOp, Op.intArith]) e
 case quo =>
  unfold Rs at e
  rw [pZ] at e
  cases hb : (b == Int.ofNat 0) with
  | true => rw [hb] at e; cases e
  | false =>
   rw [hb] at e
   simp only [cond_false, ma, wV] at e
   have cG : b ≠ 0 := by intro h0; subst h0; simp at hb
   exact fin (.int _ _) (by simp [binOp, Op.intDiv, cG]) e
 case rem =>
  unfold Ru at e
  rw [pZ] at e
  cases hb : (b == Int.ofNat 0) with
  | true => rw [hb] at e; cases e
  | false =>
   rw [hb] at e
   simp only [cond_false, ma] at e
   have cG : b ≠ 0 := by intro h0; subst h0; simp at hb
   exact fin (.int _ _) (by simp [binOp, Op.intDiv, cG]) e
 case eql => unfold Rv at e; rw [gH, pZ] at e; exact fin (.bool _) (by simp [binOp, Op.intCmp]) e
 case neq => unfold Rw at e; rw [gH, pZ] at e; exact fin (.bool _) (by simp [binOp, Op.intCmp, bne]) e
 case lss => unfold Rx at e; rw [gH, vQ] at e; exact fin (.bool _) (by simp [binOp, Op.intCmp]) e
 case leq => unfold Ry at e; rw [gH, vQ] at e; exact fin (.bool _) (by simp [binOp, Op.intCmp, Ul]) e
 case gtr => unfold Rz at e; rw [gH, vQ] at e; exact fin (.bool _) (by simp [binOp, Op.intCmp]) e
 case geq => unfold RA at e; rw [gH, vQ] at e; exact fin (.bool _) (by simp [binOp, Op.intCmp, Ul]) e
 case and =>
  unfold RB at e
  split at e
  · rename_i x' y'
    cases hb : (Nat.ble x' 18446744073709551615 && Nat.ble y' 18446744073709551615) with
    | false => rw [hb] at e; cases e
    | true =>
     rw [hb] at e
     simp only [cond_true, bH] at e
     simp only [Bool.and_eq_true] at hb
     have Ro := Nat.le_of_ble_eq_true hb.1
     have kQ := Nat.le_of_ble_eq_true hb.2
     refine fin (.int _ _) ?_ e
     have h1 : (BitVec.ofInt 64 (Int.ofNat x') &&& BitVec.ofInt 64 (Int.ofNat y')).toNat = Nat.land x' y' := by
      simp only [Int.ofNat_eq_natCast, BitVec.ofInt_natCast, BitVec.toNat_and, BitVec.toNat_ofNat]
      rw [Nat.mod_eq_of_lt (by omega), Nat.mod_eq_of_lt (by omega)]
      rfl
     have h2 : Nat.land x' y' ≤ x' := Nat.and_le_left
     have h3 : IntKind.u64.wrap (Int.ofNat (Nat.land x' y')) = Int.ofNat (Nat.land x' y') := IntWalk.u64_in _ ⟨by simp only [Int.ofNat_eq_natCast]; omega, by simp only [Int.ofNat_eq_natCast]; omega⟩
     have h4 : (binOp .and t (.int .u64 (Int.ofNat x')) (.int .u64 (Int.ofNat y'))).run P w = .ok (.int .u64 (IntKind.u64.wrap (Int.ofNat (BitVec.ofInt 64 (Int.ofNat x') &&& BitVec.ofInt 64 (Int.ofNat y')).toNat))) w := rfl
     rw [h4, h1, h3]
  · cases e
 all_goals (unfold RC at e; cases e)
end
end Go.Ve
