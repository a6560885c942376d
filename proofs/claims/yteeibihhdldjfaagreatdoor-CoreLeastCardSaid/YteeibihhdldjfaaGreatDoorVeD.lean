/- Part 4: VEval, part 5: each operation of the evaluator stands for the machine's own, first half. No condition. -/
import Derived.Test.YteeibihhdldjfaaGreatDoorVeC
import Derived.IntWalk
import Derived.Laws.StructEq
import Derived.Laws.RangeString
import Derived.WideLaws
set_option linter.unusedVariables false
set_option linter.unusedSimpArgs false
namespace Go.Ve
open Go.RowKit
def PR (P : Program) (w0 : World) (φ : aE) (h : AH) (r : Result Next) (Q : Value → AH → Prop) : Prop :=
 ∃ v' w' v h' φ', (r = .ok (.value v') w' ∨ (r = .ok .skip w' ∧ v' = undef)) ∧ Q v h' ∧ Ext h.nx φ φ' ∧ h.nx ≤ h'.nx ∧ VR φ' v v' ∧ HR P w0 φ' h' w'
section
variable {P : Program} {w0 w : World} {φ : aE} {h : AH} {ρ : Operand → Value} {o : Oper} {vs : List Value} {k : KV}
theorem PR.same {r : Result Next} {Q : Value → AH → Prop} (H : HR P w0 φ h w) {v v' : Value} (hr : r = .ok (.value v') w) (hv : VR φ v v') (hq : Q v h) : PR P w0 φ h r Q :=
 ⟨v', w, v, h, φ, .inl hr, hq, Ext.refl _ _, Nat.le_refl _, hv, H⟩
theorem iJ {t : TypeId} {i : TypeInfo} (hi : P.info? t = some i) (w : World) : (sizeOf t).run P w = .ok i.size w := by simp [sizeOf, typeInfo, hi]
theorem pE {t : TypeId} {i : TypeInfo} {z : Value} (hi : P.info? t = some i) (hz : i.zero = some z) (w : World) : (zeroValue t).run P w = .ok z w := by simp [zeroValue, typeInfo, hi, hz]
theorem qV {t : TypeId} {d : TypeDesc} (hu : P.underlying t = some d) (w : World) : (isAgg t).run P w = .ok (ln d) w := by
 cases d <;> simp [isAgg, run_underlying hu, ln]
theorem kG {t : TypeId} {s : Nat} (h : dV P t = some s) : ∃ i, P.info? t = some i ∧ i.size = s := by
 unfold dV at h
 cases hi : P.info? t with
 | none => simp [hi] at h
 | some i => exact ⟨i, rfl, by simpa [hi] using h⟩
theorem nj {t : TypeId} {z : Value} (h : zeroOf P t = some z) : ∃ i, P.info? t = some i ∧ i.zero = some z ∧ xE z = true := by
 unfold zeroOf at h
 split at h
 · rename_i i hi
   split at h
   · rename_i z' hz
     split at h
     · cases h; exact ⟨i, hi, hz, by assumption⟩
     · cases h
   · cases h
 · cases h
theorem XX {v : Value} (h : F7 v = true) : VR φ v v := by
 unfold F7 at h
 split at h <;> first
  | (constructor; done)
  | (simp only [Bool.and_eq_true, beq_iff_eq] at h; obtain ⟨rfl, rfl⟩ := h; exact .lO)
  | cases h
theorem LR.XY : ∀ {l : List Value}, (∀ v ∈ l, VR φ v v) → LR φ l l
 | [], _ => .nil
 | v :: l, h => .cons v v l l (h v (by simp)) (LR.XY fun u hu => h u (by simp [hu]))
theorem oh {v : Value} (h : xE v = true) : VR φ v v := by
 unfold xE at h
 split at h
 · exact .agg _ _ (LR.XY fun u hu => XX (List.all_eq_true.1 h u hu))
 · rename_i f a b
   simp only [Bool.and_eq_true, Array.isEmpty_iff] at h
   obtain ⟨rfl, rfl⟩ := h
   exact .func _ _ _ _ _ _ (.func f) .nil .nil
 · exact XX h
theorem XZ (n : Int) (h1 : -9223372036854775808 ≤ n) (h2 : n ≤ 9223372036854775807) : n = IntKind.i64.wrap n := by rw [IntKind.wrap_i64]; omega
theorem X0 {a : Nat} (h : Nat.ble a qX = true) : a ≤ 9223372036854775807 := Nat.le_of_ble_eq_true h
theorem X1 {α : Type} {c : Bool} {a b x : α} (h1 : c = true → a = x) (h2 : c = false → b = x) : (bif c then a else b) = x := by
 cases c
 · exact h2 rfl
 · exact h1 rfl
theorem yD (k : IntKind) (n : Int) : bH k n = k.wrap n := by
 cases k
 case i64 =>
  cases n with
  | ofNat a =>
   exact X1 (c := Nat.ble a qX) (fun hb => by
    have h1 := X0 hb
    exact XZ _ (by simp only [Int.ofNat_eq_natCast]; omega) (by simp only [Int.ofNat_eq_natCast]; omega)) (fun _ => rfl)
  | negSucc a =>
   exact X1 (c := Nat.ble a qX) (fun hb => by
    have h1 := X0 hb
    exact XZ _ (by omega) (by omega)) (fun _ => rfl)
 all_goals rfl
theorem qL (a b : Int) : lq a b = (a == b) := by
 cases a <;> cases b <;> simp only [lq]
 · rename_i a b
   by_cases e : a = b
   · subst e; simp
   · rw [eO e]; symm; simp; omega
 · rfl
 · rfl
 · rename_i a b
   by_cases e : a = b
   · subst e; simp
   · rw [eO e]; symm; simp; exact e
theorem sC (a b : Nat) : Nat.ble a b = decide (a ≤ b) := by
 cases h : Nat.ble a b with
 | true => simp [Nat.le_of_ble_eq_true h]
 | false => symm; simp only [decide_eq_false_iff_not]; exact fun hle => by rw [Nat.ble_eq_true_of_le hle] at h; cases h
theorem xC (a b : Int) : lW a b = decide (a < b) := by
 cases a <;> cases b <;> simp only [lW, sC]
 · rename_i a b
   rw [decide_eq_decide]; simp only [Int.ofNat_eq_natCast]; omega
 · symm; simp only [decide_eq_false_iff_not, Int.ofNat_eq_natCast]; omega
 · symm; simp only [decide_eq_true_eq, Int.ofNat_eq_natCast]; omega
 · rename_i a b
   rw [decide_eq_decide]; omega
theorem X2 (a b : Int) : decide (a ≤ b) = !decide (b < a) := by by_cases h : b < a <;> simp [h] <;> omega
theorem mD {a b : IntKind} (h : fy a b = true) : a = b := by cases a <;> cases b <;> first | rfl | cases h
theorem Nx : ∀ (l m : List UInt8), mK l m = (l == m)
 | [], [] => rfl
 | [], _ :: _ => rfl
 | _ :: _, [] => rfl
 | a :: l, b :: m => by
  simp only [mK, List.cons_beq_cons]
  by_cases e : a = b
  · subst e; simp [Nx l m]
  · rw [eO (fun h => e (UInt8.toNat_inj.1 h))]; symm; simp [e]
theorem eqStr (a b : ByteArray) : mK a.data.toList b.data.toList = (a.toList == b.toList) := by
 rw [Nx, ByteArray.toList_eq, ByteArray.toList_eq]
theorem Uv {x : Operand} (ho : o.op = .move x ∨ o.op = .assign x) (H : HR P w0 φ h w) (hv : LR φ vs ([x].map ρ)) (e : MV vs h k = true) : PR P w0 φ h ((execOp ρ o).run P w) fun v h' => k v h' = true := by
 obtain ⟨a, al, e'⟩ := dX e; clear e; subst al; have e := e'; clear e'
 obtain ⟨a', ha, hr⟩ := hv.one
 simp at ha; subst ha
 rcases ho with ho | ho <;> exact .same H (by simp [execOp, ho]) hr e
theorem ac5 {c a b : Operand} (ho : o.op = .pick c a b) (H : HR P w0 φ h w) (hv : LR φ vs ([c, a, b].map ρ)) (e : MW vs h k = true) : PR P w0 φ h ((execOp ρ o).run P w) fun v h' => k v h' = true := by
 obtain ⟨vc, va, vb, al, e'⟩ := Ui e; clear e; subst al; have e := e'; clear e'
 obtain ⟨t, al, e'⟩ := AF e; clear e; subst al; have e := e'; clear e'
 obtain ⟨c', a', b', hx, hc, ha, hb⟩ := hv.three
 simp at hx
 obtain ⟨h1, h2, h3⟩ := hx
 subst h1 h2 h3
 have hC : ρ c = .bool t := by generalize ρ c = C at hc; cases hc; rfl
 cases t with
 | true => exact .same H (by simp [execOp, ho, asBool, hC]) ha e
 | false => exact .same H (by simp [execOp, ho, asBool, hC]) hb e
theorem PR.newRow (H : HR P w0 φ h w) {ty : TypeId} {l l' : List Value} (hl : LR φ l l') {c : NT Value} {aS : NT AO} (hc : ∀ j v, l[j]? = some v → c.get j = some v)
 (bY : h.ob.iy h.nx (some (.cells 0 l.length ty true c)) aS) :
 HR P w0 (φ.put h.nx (.live w.heap.size 0 l'.length)) ⟨h.nx + 1, aS⟩ (w.alloc (.cells l'.toArray ty)) ∧ Ext h.nx φ (φ.put h.nx (.live w.heap.size 0 l'.length)) := by
 refine H.newAt (H.fresh _ (Nat.le_refl _)) bY.1 (fun g hg _ => bY.2 g hg) (fun g hg => H.fresh g (by simp only at hg; omega)) (fun g hg => by rw [bY.2 g (by simp only at hg; omega)]; exact H.top g (by simp only at hg; omega)) (by simp) _ (Nat.le_refl _) ?_
 refine .cells _ _ _ _ _ _ _ _ _ (fun _ => rfl) (Nat.le_refl _) (by simp) fun p _ hp => ?_
 obtain ⟨u, hu, hr⟩ := LR.get hl p _ (List.getElem?_eq_getElem hp)
 exact ⟨l[p], u, hc p _ (List.getElem?_eq_getElem hp), by simpa using hu, hr⟩
theorem PR.xK {φ : aE} {f B n : Nat} : VR (φ.put f (.live B 0 n)) (aC f 0) (.pointer (some ⟨B, 0, none⟩)) := by
 refine .ptr _ _ (by simp [aE.put]) fun b d n h => ?_
 simp only [aE.gP] at h
 cases h
 exact ⟨rfl, rfl, rfl⟩
theorem PR.X3 {r : Result Next} (H : HR P w0 φ h w) {ty : TypeId} {l l' : List Value} (hl : LR φ l l') {k : KV} (e : jT h ty l (fun b h => k (aC b 0) h) = true)
 (hr : r = .ok (.value (.pointer (some ⟨w.heap.size, 0, none⟩))) (w.alloc (.cells l'.toArray ty))) : PR P w0 φ h r fun v h' => k v h' = true := by
 obtain ⟨og, c, aS, h1, h2, h3⟩ := qK e
 obtain ⟨g1, g2⟩ := PR.newRow H hl h1 h2
 exact ⟨_, _, _, _, _, .inl hr, h3, g2, by simp, PR.xK, g1⟩
theorem ac6 {ty : TypeId} {z : Value} (ho : o.op = .alloc ty) (hz : zeroOf P ty = some z) (H : HR P w0 φ h w) (e : Vu ty z.cells.toList vs h k = true) : PR P w0 φ h ((execOp ρ o).run P w) fun v h' => k v h' = true := by
 obtain ⟨i, hi, hz, eD⟩ := nj hz
 obtain ⟨al, e'⟩ := sF e; clear e; subst al; have e := e'; clear e'
 refine PR.X3 H (VR.cells (oh eD)) e ?_
 simp [execOp, ho, Instr.alloc, pE hi hz, newVar, newRow, World.alloc_eq]
theorem ac7 {ty : TypeId} {x : Operand} (ho : o.op = .box ty x) (H : HR P w0 φ h w) (hv : LR φ vs ([x].map ρ)) (e : Vv ty vs h k = true) : PR P w0 φ h ((execOp ρ o).run P w) fun v h' => k v h' = true := by
 obtain ⟨a, al, e'⟩ := dX e; clear e; subst al; have e := e'; clear e'
 obtain ⟨a', ha, hr⟩ := hv.one
 simp at ha; subst ha
 rw [xL] at e
 refine PR.X3 H (VR.cells hr) e ?_
 simp [execOp, ho, Instr.box, newVar, newRow, World.alloc_eq]
theorem VR.jx {a : Addr} {v' : Value} (h : VR φ (.pointer (some a)) v') : ∃ a', v' = .pointer (some a') ∧ φ a.block ≠ none ∧ AtR φ a a' := by
 cases h with | ptr _ a' h1 h2 => exact ⟨a', rfl, h1, h2⟩
theorem VR.ni {a : Addr} {l c : Nat} {v' : Value} (h : VR φ (.slice (some a) l c) v') : ∃ a' c', v' = .slice (some a') l c' ∧ φ a.block ≠ none ∧ qF φ a a' l c c' := by
 cases h with | sl _ a' _ _ c' h1 h2 => exact ⟨a', c', rfl, h1, h2⟩
theorem VR.pD {l c : Nat} {v' : Value} (h : VR φ (.slice none l c) v') : l = 0 ∧ c = 0 ∧ v' = .slice none 0 0 := by
 cases h; exact ⟨rfl, rfl, rfl⟩
theorem VR.fX {kd : IntKind} {n : Int} {v' : Value} (h : VR φ (.int kd n) v') : v' = .int kd n := by cases h; rfl
theorem VR.pC {b : Bool} {v' : Value} (h : VR φ (.bool b) v') : v' = .bool b := by cases h; rfl
theorem VR.ja {s : ByteArray} {v' : Value} (h : VR φ (.string s) v') : v' = .string s := by cases h; rfl
theorem VR.vH {a : Array Value} {v' : Value} (h : VR φ (.agg a) v') : ∃ a', v' = .agg a' ∧ LR φ a.toList a'.toList := by
 cases h with | agg _ a' h => exact ⟨a', rfl, h⟩
theorem VR.Xg {a : Array Value} {v' : Value} (h : VR φ (.tuple a) v') : ∃ a', v' = .tuple a' ∧ LR φ a.toList a'.toList := by
 cases h with | fx _ a' h => exact ⟨a', rfl, h⟩
theorem VR.E4 {r : Nat} {v' : Value} (h : VR φ (.map (some r)) v') : ∃ r', v' = .map (some r') ∧ φ r ≠ none ∧ ∀ b d n, φ r = some (.live b d n) → r' = b := by
 cases h with | map _ r' h1 h2 => exact ⟨r', rfl, h1, h2⟩
theorem VR.LX {v' : Value} (h : VR φ (.map none) v') : v' = .map none := by cases h; rfl
theorem ac9 {t : TypeId} {d : TypeDesc} {x : Operand} (ho : o.op = .load t x) (hu : P.underlying t = some d) (hd : ln d = false) (H : HR P w0 φ h w) (hv : LR φ vs ([x].map ρ)) (e : MX vs h k = true) : PR P w0 φ h ((execOp ρ o).run P w) fun v h' => k v h' = true := by
 obtain ⟨p, al, e'⟩ := dX e; clear e; subst al; have e := e'; clear e'
 obtain ⟨p', hp, hr⟩ := hv.one
 simp at hp; subst hp
 obtain ⟨a, al, e'⟩ := kF e; clear e; subst al; have e := e'; clear e'
 obtain ⟨a', ha, hs, cw⟩ := hr.jx
 obtain ⟨lo, hi, ty, rw, c, v, h1, h2, h3, h4, h5⟩ := Ft e
 obtain ⟨v', hc, AG⟩ := H.cell hs cw h1 (j := 0) (by omega) (by omega) (by simpa using h4)
 refine .same H ?_ AG h5
 have : a'.add 0 = a' := rfl
 rw [this] at hc
 simp [execOp, ho, ha, Instr.loadAt, Instr.sureAddr, loadVar, qV hu, hd, hc]
theorem ac8 {t : TypeId} {d : TypeDesc} {n : Nat} {x : Operand} (ho : o.op = .load t x) (hu : P.underlying t = some d) (hd : ln d = true) (hz : dV P t = some n) (H : HR P w0 φ h w) (hv : LR φ vs ([x].map ρ)) (e : MY n vs h k = true) : PR P w0 φ h ((execOp ρ o).run P w) fun v h' => k v h' = true := by
 obtain ⟨i, hi, rfl⟩ := kG hz
 obtain ⟨p, al, e'⟩ := dX e; clear e; subst al; have e := e'; clear e'
 obtain ⟨p', hp, hr⟩ := hv.one
 simp at hp; subst hp
 obtain ⟨a, al, e'⟩ := kF e; clear e; subst al; have e := e'; clear e'
 obtain ⟨a', ha, hs, cw⟩ := hr.jx
 obtain ⟨lo, Fs, ty, rw, c, l, h1, h2, h3, h4, h5, h6⟩ := sD e
 obtain ⟨l', hl, bO⟩ := H.cells hs cw h1 h2 (by omega) h5
 refine .same H ?_ (.agg ⟨l⟩ l'.toArray (by simpa using hl)) h6
 rw [h4] at bO
 simp [execOp, ho, ha, Instr.loadAt, Instr.sureAddr, loadVar, qV hu, hd, iJ hi, bO w rfl]
theorem ada {t : TypeId} {n : Nat} {x y : Operand} (ho : o.op = .store t x y) (hz : dV P t = some n) (H : HR P w0 φ h w) (hv : LR φ vs ([x, y].map ρ)) (e : Vy n vs h k = true) : PR P w0 φ h ((execOp ρ o).run P w) fun v h' => k v h' = true := by
 obtain ⟨i, hi, rfl⟩ := kG hz
 obtain ⟨p, v, al, e'⟩ := gm e; clear e; subst al; have e := e'; clear e'
 obtain ⟨p', v', hp, hr, AG⟩ := hv.two
 simp at hp; obtain ⟨e1, e2⟩ := hp; subst e1 e2
 obtain ⟨a, al, e'⟩ := kF e; clear e; subst al; have e := e'; clear e'
 obtain ⟨a', ha, hs, cw⟩ := hr.jx
 obtain ⟨hle, e⟩ := bV e
 have hle := E9 _ hle
 rw [xL] at hle e
 obtain ⟨lo, Fs, ty, c, c', aS, g1, g2, g3, g4, g5, g6, g7, g8⟩ := LU e
 have jy := VR.cells AG
 obtain ⟨w', bO, HH, _⟩ := H.write hs cw g1 g2 g3 jy g4 g5 g6 g7
 refine ⟨undef, w', undef, _, φ, .inr ⟨?_, rfl⟩, g8, Ext.refl _ _, Nat.le_refl _, VR.undef _, HH⟩
 have ef : (ρ y).cells.size = i.size := by rw [← hle, LR.length jy]; simp
 simp [execOp, ho, ha, Instr.storeAt, Instr.sureAddr, storeVar, iJ hi, ef, bO]
theorem adb {x : Operand} (ho : o.op = .nilCheck x) (H : HR P w0 φ h w) (hv : LR φ vs ([x].map ρ)) (e : MZ vs h k = true) : PR P w0 φ h ((execOp ρ o).run P w) fun v h' => k v h' = true := by
 obtain ⟨a, al, e'⟩ := dX e; clear e; subst al; have e := e'; clear e'
 obtain ⟨a', ha, hr⟩ := hv.one
 simp at ha; subst ha
 obtain ⟨h1, h2⟩ := bV e
 refine .same H ?_ hr h2
 generalize hA : ρ x = A at hr
 simp only [execOp, ho, hA]
 cases hr with
 | func fn qG first jw bD iX hf _ _ =>
  cases hf with
  | func f => rfl
  | method s => simp [AT] at h1
  | yield l l' _ _ => rfl
 | EX => simp [AT] at h1
 | LH => simp [AT] at h1
 | xB => simp [AT] at h1
 | _ => rfl
theorem ade {s : TypeId} {x : Operand} {f : Nat} {fs : Array Field} {fl : Field} {sz : Nat} (ho : o.op = .fieldAddr s x f) (hu : P.underlying s = some (.struct fs)) (hf : fs[f]? = some fl) (hz : dV P fl.type = some sz) (ef : sz ≠ 0)
 (H : HR P w0 φ h w) (hv : LR φ vs ([x].map ρ)) (e : M0 fl.offset vs h k = true) : PR P w0 φ h ((execOp ρ o).run P w) fun v h' => k v h' = true := by
 obtain ⟨i, hi, rfl⟩ := kG hz
 obtain ⟨p, al, e'⟩ := dX e; clear e; subst al; have e := e'; clear e'
 obtain ⟨p', hp, hr⟩ := hv.one
 simp at hp; subst hp
 obtain ⟨a, al, e'⟩ := kF e; clear e; subst al; have e := e'; clear e'
 rw [bT] at e
 obtain ⟨a', ha, hs, cw⟩ := hr.jx
 refine .same H (v' := .pointer (some (a'.add fl.offset))) ?_ (.ptr ⟨a.block, a.off + fl.offset, none⟩ _ hs fun b d n hl => ?_) e
 · simp [execOp, ho, ha, Instr.fieldAt, Instr.sureAddr, run_underlying hu, hf, fieldPlace, iJ hi, ef]
 · obtain ⟨e1, e2, e3⟩ := cw b d n hl
   rw [lv a' e3]
   exact ⟨e1, by show a'.off + fl.offset + d = a.off + fl.offset; omega, rfl⟩
theorem adg {s : TypeId} {x : Operand} {f : Nat} {fs : Array Field} {fl : Field} {d : TypeDesc} (ho : o.op = .field s x f) (hu : P.underlying s = some (.struct fs)) (hf : fs[f]? = some fl) (hd : P.underlying fl.type = some d) (ha : ln d = false)
 (H : HR P w0 φ h w) (hv : LR φ vs ([x].map ρ)) (e : M1 fl.offset vs h k = true) : PR P w0 φ h ((execOp ρ o).run P w) fun v h' => k v h' = true := by
 obtain ⟨p, al, e'⟩ := dX e; clear e; subst al; have e := e'; clear e'
 obtain ⟨p', hp, hr⟩ := hv.one
 simp at hp; subst hp
 obtain ⟨a, al, e'⟩ := yo e; clear e; subst al; have e := e'; clear e'
 obtain ⟨a', hx, hl⟩ := hr.vH
 obtain ⟨v, h1, h2⟩ := Br _ e
 obtain ⟨v', h3, h4⟩ := LR.get hl _ _ h1
 refine .same H ?_ h4 h2
 have Ai : a'[fl.offset]? = some v' := by simpa using h3
 simp [execOp, ho, hx, Instr.field, run_underlying hu, hf, asAgg, part, qV hd, ha, Ai]
theorem adf {s : TypeId} {x : Operand} {f : Nat} {fs : Array Field} {fl : Field} {d : TypeDesc} {n : Nat} (ho : o.op = .field s x f) (hu : P.underlying s = some (.struct fs)) (hf : fs[f]? = some fl) (hd : P.underlying fl.type = some d) (ha : ln d = true) (hz : dV P fl.type = some n)
 (H : HR P w0 φ h w) (hv : LR φ vs ([x].map ρ)) (e : M3 fl.offset n vs h k = true) : PR P w0 φ h ((execOp ρ o).run P w) fun v h' => k v h' = true := by
 obtain ⟨i, hi, rfl⟩ := kG hz
 obtain ⟨p, al, e'⟩ := dX e; clear e; subst al; have e := e'; clear e'
 obtain ⟨p', hp, hr⟩ := hv.one
 simp at hp; subst hp
 obtain ⟨a, al, e'⟩ := yo e; clear e; subst al; have e := e'; clear e'
 obtain ⟨a', hx, hl⟩ := hr.vH
 obtain ⟨e, h1⟩ := Gi _ e
 obtain ⟨e, h2⟩ := Gh _ e
 refine .same H (v' := .agg (a'.extract fl.offset (fl.offset + i.size))) ?_ (.agg _ _ ?_) e
 · simp [execOp, ho, hx, Instr.field, run_underlying hu, hf, asAgg, part, qV hd, ha, iJ hi]
 · have := (hl.drop fl.offset).take i.size
   simpa [Array.toList_extract, List.extract_eq_drop_take'] using this
theorem adi {t e' : TypeId} {x y : Operand} {n : Nat} (ho : o.op = .indexAddr t x y) (hu : P.underlying t = some (.slice e')) (hz : dV P e' = some n) (H : HR P w0 φ h w) (hv : LR φ vs ([x, y].map ρ)) (e : M4 n vs h k = true) : PR P w0 φ h ((execOp ρ o).run P w) fun v h' => k v h' = true := by
 obtain ⟨i, hi, rfl⟩ := kG hz
 obtain ⟨p, q, al, e'⟩ := gm e; clear e; subst al; have e := e'; clear e'
 obtain ⟨p', q', hp, hr, hq⟩ := hv.two
 simp at hp; obtain ⟨e1, e2⟩ := hp; subst e1 e2
 obtain ⟨kd, m, al, e'⟩ := qJ e; clear e; subst al; have e := e'; clear e'
 rcases oe e with ⟨_, _, _, e'⟩ | ⟨a, l, c, al, e'⟩
 · cases e'
 clear e; subst al; have e := e'; clear e'
 obtain ⟨bG, e⟩ := bV e
 have bG := Nat.le_of_ble_eq_true bG
 rw [bT] at e
 obtain ⟨a', c', hx, hs, hc⟩ := hr.ni
 have cw : AtR φ a a' := by
  rcases hc with ⟨h1, h2, qQ, h3⟩ | ⟨sz, h1, h2, h3, h4⟩
  · exact h3 (by omega)
  · exact (h4 (by omega)).1
 have agz : m < l := bG
 refine .same H (v' := .pointer (some (a'.add (m * i.size)))) ?_ (.ptr ⟨a.block, a.off + m * i.size, none⟩ _ hs fun b d n hl => ?_) e
 · simp only [execOp, ho, hx, hq.fX]
   simp [Instr.indexAt, asIntOf, run_underlying hu, iJ hi, agz]
 · obtain ⟨e1, e2, e3⟩ := cw b d n hl
   rw [lv a' e3]
   exact ⟨e1, by show a'.off + m * i.size + d = a.off + m * i.size; omega, rfl⟩
theorem adh {t e' : TypeId} {x y : Operand} {len n : Nat} (ho : o.op = .indexAddr t x y) (hu : P.underlying t = some (.array len e')) (hz : dV P e' = some n) (H : HR P w0 φ h w) (hv : LR φ vs ([x, y].map ρ)) (e : M5 len n vs h k = true) : PR P w0 φ h ((execOp ρ o).run P w) fun v h' => k v h' = true := by
 obtain ⟨i, hi, rfl⟩ := kG hz
 obtain ⟨p, q, al, e1⟩ := gm e; clear e; subst al; have e := e1; clear e1
 obtain ⟨p', q', hp, hr, hq⟩ := hv.two
 simp at hp; obtain ⟨e1, e2⟩ := hp; subst e1 e2
 obtain ⟨kd, m, al, e1⟩ := qJ e; clear e; subst al; have e := e1; clear e1
 obtain ⟨a, al, e1⟩ := kF e; clear e; subst al; have e := e1; clear e1
 obtain ⟨bG, e⟩ := bV e
 have bG : m < len := Nat.le_of_ble_eq_true bG
 rw [bT] at e
 obtain ⟨a', hx, hs, cw⟩ := hr.jx
 refine .same H (v' := .pointer (some (a'.add (m * i.size)))) ?_ (.ptr ⟨a.block, a.off + m * i.size, none⟩ _ hs fun b d n hl => ?_) e
 · simp only [execOp, ho, hx, hq.fX]
   simp [Instr.indexAt, Instr.sureAddr, asIntOf, run_underlying hu, iJ hi, bG]
 · obtain ⟨e1, e2, e3⟩ := cw b d n hl
   rw [lv a' e3]
   exact ⟨e1, by show a'.off + m * i.size + d = a.off + m * i.size; omega, rfl⟩
theorem adk {t e' : TypeId} {x y : Operand} {len : Nat} {d : TypeDesc} (ho : o.op = .index t x y) (hu : P.underlying t = some (.array len e')) (hd : P.underlying e' = some d) (ha : ln d = false) (hz : dV P e' = some 1) (H : HR P w0 φ h w) (hv : LR φ vs ([x, y].map ρ)) (e : M6 len vs h k = true) : PR P w0 φ h ((execOp ρ o).run P w) fun v h' => k v h' = true := by
 obtain ⟨i, hi, h1⟩ := kG hz
 obtain ⟨p, q, al, e1⟩ := gm e; clear e; subst al; have e := e1; clear e1
 obtain ⟨p', q', hp, hr, hq⟩ := hv.two
 simp at hp; obtain ⟨e1, e2⟩ := hp; subst e1 e2
 obtain ⟨kd, m, al, e1⟩ := qJ e; clear e; subst al; have e := e1; clear e1
 obtain ⟨a, al, e1⟩ := yo e; clear e; subst al; have e := e1; clear e1
 obtain ⟨bG, e⟩ := bV e
 have bG : m < len := Nat.le_of_ble_eq_true bG
 obtain ⟨a', hx, hl⟩ := hr.vH
 obtain ⟨v, g1, g2⟩ := Br _ e
 obtain ⟨v', g3, g4⟩ := LR.get hl _ _ g1
 refine .same H ?_ g4 g2
 have BF : a'[m]? = some v' := by simpa using g3
 simp only [execOp, ho, hx, hq.fX]
 simp [Instr.index, asIntOf, run_underlying hu, iJ hi, h1, bG, part, qV hd, ha, BF]
theorem adj {t e' : TypeId} {x y : Operand} {len n : Nat} {d : TypeDesc} (ho : o.op = .index t x y) (hu : P.underlying t = some (.array len e')) (hd : P.underlying e' = some d) (ha : ln d = true) (hz : dV P e' = some n) (H : HR P w0 φ h w) (hv : LR φ vs ([x, y].map ρ)) (e : M7 len n vs h k = true) : PR P w0 φ h ((execOp ρ o).run P w) fun v h' => k v h' = true := by
 obtain ⟨i, hi, rfl⟩ := kG hz
 obtain ⟨p, q, al, e1⟩ := gm e; clear e; subst al; have e := e1; clear e1
 obtain ⟨p', q', hp, hr, hq⟩ := hv.two
 simp at hp; obtain ⟨e1, e2⟩ := hp; subst e1 e2
 obtain ⟨kd, m, al, e1⟩ := qJ e; clear e; subst al; have e := e1; clear e1
 obtain ⟨a, al, e1⟩ := yo e; clear e; subst al; have e := e1; clear e1
 obtain ⟨bG, e⟩ := bV e
 have bG : m < len := Nat.le_of_ble_eq_true bG
 obtain ⟨a', hx, hl⟩ := hr.vH
 obtain ⟨e, _⟩ := Gi _ e
 obtain ⟨e, _⟩ := Gh _ e
 refine .same H (v' := .agg (a'.extract (m * i.size) (m * i.size + i.size))) ?_ (.agg _ _ ?_) e
 · simp only [execOp, ho, hx, hq.fX]
   simp [Instr.index, asIntOf, run_underlying hu, iJ hi, bG, part, qV hd, ha]
 · have := (hl.drop (m * i.size)).take i.size
   simpa [Array.toList_extract, List.extract_eq_drop_take'] using this
theorem adl {t : TypeId} {x y : Operand} (ho : o.op = .index t x y) (hu : P.underlying t = some .string) (H : HR P w0 φ h w) (hv : LR φ vs ([x, y].map ρ)) (e : FD vs h k = true) : PR P w0 φ h ((execOp ρ o).run P w) fun v h' => k v h' = true := by
 obtain ⟨p, q, al, e1⟩ := gm e; clear e; subst al; have e := e1; clear e1
 obtain ⟨p', q', hp, hr, hq⟩ := hv.two
 simp at hp; obtain ⟨e1, e2⟩ := hp; subst e1 e2
 obtain ⟨kd, m, al, e1⟩ := qJ e; clear e; subst al; have e := e1; clear e1
 obtain ⟨s, al, e1⟩ := kb e; clear e; subst al; have e := e1; clear e1
 split at e
 · rename_i c hc
   rw [bT] at e
   refine .same H ?_ (.int _ _) e
   have hs : s[m]? = some c := by
    have h1 : m < s.data.size := by simpa using (List.getElem?_eq_some_iff.1 hc).1
    have h2 : m < s.size := h1
    rw [getElem?_pos s m h2]
    simp only [Option.some.injEq]
    have h3 : s.data[m]'h1 = c := by simpa using (List.getElem?_eq_some_iff.1 hc).2
    exact h3
   simp only [execOp, ho, hr.ja, hq.fX]
   simp [Instr.index, asIntOf, run_underlying hu, hs]
 · cases e
theorem adp {op : BinOp} {t u : TypeId} {x y : Operand} (ho : o.op = .binOp op t x y u) (H : HR P w0 φ h w) (hv : LR φ vs ([x, y].map ρ)) (e : FE op vs h k = true) : PR P w0 φ h ((execOp ρ o).run P w) fun v h' => k v h' = true := by
 obtain ⟨p, q, al, e1⟩ := gm e; clear e; subst al; have e := e1; clear e1
 obtain ⟨p', q', hp, hr, hq⟩ := hv.two
 simp at hp; obtain ⟨e1, e2⟩ := hp; subst e1 e2
 obtain ⟨kx, a, al, e1⟩ := lP e; clear e; subst al; have e := e1; clear e1
 obtain ⟨ky, b, al, e1⟩ := lP e; clear e; subst al; have e := e1; clear e1
 have hg : (eqGuard op t x y (.int kx a) (.int ky b)).run P w = .ok () w := by
  unfold eqGuard
  split <;> simp
 have hx := hr.fX
 have hy := hq.fX
 have fin : ∀ {v : Value}, VR φ v v → (binOp op t (.int kx a) (.int ky b)).run P w = .ok v w → k v h = true → PR P w0 φ h ((execOp ρ o).run P w) fun v h' => k v h' = true :=
  fun L3 bO hk => .same H (by simp only [execOp, ho, hx, hy]; simp [hg, bO]) L3 hk
 cases op <;> simp only [MT] at e <;> first | (cases e; done) | skip
 case shr =>
  unfold MR at e
  split at e
  · rename_i x' y'
    cases hb : Nat.ble y' 64 with
    | false => rw [hb] at e; cases e
    | true =>
     rw [hb] at e
     simp only [cond_true, bT] at e
     have hle := Nat.le_of_ble_eq_true hb
     refine fin (.int _ _) ?_ e
     have hm : min y' 64 = y' := by omega
     have h1 : ¬ (Int.ofNat y' < 0) := by simp only [Int.ofNat_eq_natCast]; omega
     have hf : (Int.ofNat x').fdiv (2 ^ y') = Int.ofNat (Nat.shiftRight x' y') := by
      show (x' : Int).fdiv (2 ^ y') = ((x' >>> y' : Nat) : Int)
      have h2 : (2 : Int) ^ y' = ((2 ^ y' : Nat) : Int) := by simp
      rw [Nat.shiftRight_eq_div_pow, h2, Int.fdiv_eq_ediv_of_nonneg _ (Int.natCast_nonneg _), Int.natCast_ediv]
     have ht : (Int.ofNat y').toNat = y' := rfl
     simp only [binOp, Op.shift, IntKind.bits, h1, if_false, ht, hm, hf, Sem.run_pure]
  · cases e
 all_goals
  obtain ⟨hk, e2⟩ := bV e
  clear e; have e := e2; clear e2
  obtain rfl := mD hk
  simp only [MQ] at e
 case add => unfold Vg at e; rw [ot, yD] at e; exact fin (.int _ _) (by simp [binOp, Op.intArith]) e
 case sub => unfold Vh at e; rw [ot, yD] at e; exact fin (.int _ _) (by simp [binOp, Op.intArith]; rfl) e
 case mul => unfold Vi at e; rw [ot, yD] at e; exact fin (.int _ _) (by simp [binOp, Op.intArith]) e
 case quo =>
  unfold Vj at e
  rw [qL] at e
  cases hb : (b == Int.ofNat 0) with
  | true => rw [hb] at e; cases e
  | false =>
   rw [hb] at e
   simp only [cond_false, ot, yD] at e
   have cS : b ≠ 0 := by intro h0; subst h0; simp at hb
   exact fin (.int _ _) (by simp [binOp, Op.intDiv, cS]) e
 case rem =>
  unfold Vk at e
  rw [qL] at e
  cases hb : (b == Int.ofNat 0) with
  | true => rw [hb] at e; cases e
  | false =>
   rw [hb] at e
   simp only [cond_false, ot] at e
   have cS : b ≠ 0 := by intro h0; subst h0; simp at hb
   exact fin (.int _ _) (by simp [binOp, Op.intDiv, cS]) e
 case eql => unfold Vl at e; rw [ia, qL] at e; exact fin (.bool _) (by simp [binOp, Op.intCmp]) e
 case neq => unfold Vm at e; rw [ia, qL] at e; exact fin (.bool _) (by simp [binOp, Op.intCmp, bne]) e
 case lss => unfold Vn at e; rw [ia, xC] at e; exact fin (.bool _) (by simp [binOp, Op.intCmp]) e
 case leq => unfold Vo at e; rw [ia, xC] at e; exact fin (.bool _) (by simp [binOp, Op.intCmp, X2]) e
 case gtr => unfold Vp at e; rw [ia, xC] at e; exact fin (.bool _) (by simp [binOp, Op.intCmp]) e
 case geq => unfold Vq at e; rw [ia, xC] at e; exact fin (.bool _) (by simp [binOp, Op.intCmp, X2]) e
 case and =>
  unfold Vr at e
  split at e
  · rename_i x' y'
    cases hb : (Nat.ble x' 18446744073709551615 && Nat.ble y' 18446744073709551615) with
    | false => rw [hb] at e; cases e
    | true =>
     rw [hb] at e
     simp only [cond_true, bT] at e
     simp only [Bool.and_eq_true] at hb
     have Vf := Nat.le_of_ble_eq_true hb.1
     have ll := Nat.le_of_ble_eq_true hb.2
     refine fin (.int _ _) ?_ e
     have h1 : (BitVec.ofInt 64 (Int.ofNat x') &&& BitVec.ofInt 64 (Int.ofNat y')).toNat = Nat.land x' y' := by
      simp only [Int.ofNat_eq_natCast, BitVec.ofInt_natCast, BitVec.toNat_and, BitVec.toNat_ofNat]
      rw [Nat.mod_eq_of_lt (by omega), Nat.mod_eq_of_lt (by omega)]
      rfl
     have h2 : Nat.land x' y' ≤ x' := Nat.and_le_left
     have h3 : IntKind.u64.wrap (Int.ofNat (Nat.land x' y')) = Int.ofNat (Nat.land x' y') := IntWalk.u64_in _ ⟨by simp only [Int.ofNat_eq_natCast]; omega, by simp only [Int.ofNat_eq_natCast]; omega⟩
     have h4 : (binOp .and t (.int .u64 (Int.ofNat x')) (.int .u64 (Int.ofNat y'))).run P w = .ok (.int .u64 (IntKind.u64.wrap (Int.ofNat (BitVec.ofInt 64 (Int.ofNat x') &&& BitVec.ofInt 64 (Int.ofNat y')).toNat))) w := rfl
     rw [h4, h1, h3]
  · cases e
 all_goals (unfold Vs at e; cases e)
end
end Go.Ve
