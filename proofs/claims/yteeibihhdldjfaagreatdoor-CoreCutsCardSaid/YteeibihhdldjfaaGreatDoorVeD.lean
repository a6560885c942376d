/- Part 4: VEval, part 5: each operation of the evaluator stands for the machine's own, first half. No condition. -/
import Derived.Test.YteeibihhdldjfaaGreatDoorVeC
import Derived.IntWalk
import Derived.Laws.StructEq
import Derived.Laws.RangeString
import Derived.WideLaws
set_option linter.unusedVariables false
set_option linter.unusedSimpArgs false
namespace Go.Ve
open Go.RowKit
def PR (P : Program) (w0 : World) (φ : Phi) (h : AH) (r : Result Next) (Q : Value → AH → Prop) : Prop :=
  ∃ v' w' v h' φ', (r = .ok (.value v') w' ∨ (r = .ok .skip w' ∧ v' = undef)) ∧ Q v h' ∧ Ext h.nx φ φ' ∧ h.nx ≤ h'.nx ∧ VR φ' v v' ∧ HR P w0 φ' h' w'
section
variable {P : Program} {w0 w : World} {φ : Phi} {h : AH} {ρ : Operand → Value} {o : Oper} {vs : List Value} {k : KV}
theorem PR.same {r : Result Next} {Q : Value → AH → Prop} (H : HR P w0 φ h w) {v v' : Value} (hr : r = .ok (.value v') w) (hv : VR φ v v') (hq : Q v h) : PR P w0 φ h r Q :=
  ⟨v', w, v, h, φ, .inl hr, hq, Ext.refl _ _, Nat.le_refl _, hv, H⟩
theorem run_size' {t : TypeId} {i : TypeInfo} (hi : P.info? t = some i) (w : World) : (sizeOf t).run P w = .ok i.size w := by simp [sizeOf, typeInfo, hi]
theorem run_zero' {t : TypeId} {i : TypeInfo} {z : Value} (hi : P.info? t = some i) (hz : i.zero = some z) (w : World) : (zeroValue t).run P w = .ok z w := by simp [zeroValue, typeInfo, hi, hz]
theorem run_isAgg' {t : TypeId} {d : TypeDesc} (hu : P.underlying t = some d) (w : World) : (isAgg t).run P w = .ok (isAggD d) w := by
  cases d <;> simp [isAgg, run_underlying hu, isAggD]
theorem szOf_t {t : TypeId} {s : Nat} (h : szOf P t = some s) : ∃ i, P.info? t = some i ∧ i.size = s := by
  unfold szOf at h
  cases hi : P.info? t with
  | none => simp [hi] at h
  | some i => exact ⟨i, rfl, by simpa [hi] using h⟩
theorem zeroOf_t {t : TypeId} {z : Value} (h : zeroOf P t = some z) : ∃ i, P.info? t = some i ∧ i.zero = some z ∧ okC z = true := by
  unfold zeroOf at h
  split at h
  · rename_i i hi
    split at h
    · rename_i z' hz
      split at h
      · cases h; exact ⟨i, hi, hz, by assumption⟩
      · cases h
    · cases h
  · cases h
theorem okC1_VR {v : Value} (h : okC1 v = true) : VR φ v v := by
  unfold okC1 at h
  split at h <;> first
    | (constructor; done)
    | (simp only [Bool.and_eq_true, beq_iff_eq] at h; obtain ⟨rfl, rfl⟩ := h; exact .nils)
    | cases h
theorem LR.refl_of : ∀ {l : List Value}, (∀ v ∈ l, VR φ v v) → LR φ l l
  | [], _ => .nil
  | v :: l, h => .cons v v l l (h v (by simp)) (LR.refl_of fun u hu => h u (by simp [hu]))
theorem okC_VR {v : Value} (h : okC v = true) : VR φ v v := by
  unfold okC at h
  split at h
  · exact .agg _ _ (LR.refl_of fun u hu => okC1_VR (List.all_eq_true.1 h u hu))
  · rename_i f a b
    simp only [Bool.and_eq_true, Array.isEmpty_iff] at h
    obtain ⟨rfl, rfl⟩ := h
    exact .func _ _ _ _ _ _ (.func f) .nil .nil
  · exact okC1_VR h
theorem wrap63 (n : Int) (h1 : -9223372036854775808 ≤ n) (h2 : n ≤ 9223372036854775807) : n = IntKind.i64.wrap n := by rw [IntKind.wrap_i64]; omega
theorem m63_le {a : Nat} (h : Nat.ble a m63 = true) : a ≤ 9223372036854775807 := Nat.le_of_ble_eq_true h
theorem cond_same {α : Type} {c : Bool} {a b x : α} (h1 : c = true → a = x) (h2 : c = false → b = x) : (bif c then a else b) = x := by
  cases c
  · exact h2 rfl
  · exact h1 rfl
theorem wrapQ_eq (k : IntKind) (n : Int) : wrapQ k n = k.wrap n := by
  cases k
  case i64 =>
    cases n with
    | ofNat a =>
      exact cond_same (c := Nat.ble a m63) (fun hb => by
        have h1 := m63_le hb
        exact wrap63 _ (by simp only [Int.ofNat_eq_natCast]; omega) (by simp only [Int.ofNat_eq_natCast]; omega)) (fun _ => rfl)
    | negSucc a =>
      exact cond_same (c := Nat.ble a m63) (fun hb => by
        have h1 := m63_le hb
        exact wrap63 _ (by omega) (by omega)) (fun _ => rfl)
  all_goals rfl
theorem eqI_eq (a b : Int) : eqI a b = (a == b) := by
  cases a <;> cases b <;> simp only [eqI]
  · rename_i a b
    by_cases e : a = b
    · subst e; simp
    · rw [beqF e]; symm; simp; omega
  · rfl
  · rfl
  · rename_i a b
    by_cases e : a = b
    · subst e; simp
    · rw [beqF e]; symm; simp; exact e
theorem ble_dec (a b : Nat) : Nat.ble a b = decide (a ≤ b) := by
  cases h : Nat.ble a b with
  | true => simp [Nat.le_of_ble_eq_true h]
  | false => symm; simp only [decide_eq_false_iff_not]; exact fun hle => by rw [Nat.ble_eq_true_of_le hle] at h; cases h
theorem ltI_eq (a b : Int) : ltI a b = decide (a < b) := by
  cases a <;> cases b <;> simp only [ltI, ble_dec]
  · rename_i a b
    rw [decide_eq_decide]; simp only [Int.ofNat_eq_natCast]; omega
  · symm; simp only [decide_eq_false_iff_not, Int.ofNat_eq_natCast]; omega
  · symm; simp only [decide_eq_true_eq, Int.ofNat_eq_natCast]; omega
  · rename_i a b
    rw [decide_eq_decide]; omega
theorem dle (a b : Int) : decide (a ≤ b) = !decide (b < a) := by by_cases h : b < a <;> simp [h] <;> omega
theorem eqK_t {a b : IntKind} (h : eqK a b = true) : a = b := by cases a <;> cases b <;> first | rfl | cases h
theorem eqBs_eq : ∀ (l m : List UInt8), eqBs l m = (l == m)
  | [], [] => rfl
  | [], _ :: _ => rfl
  | _ :: _, [] => rfl
  | a :: l, b :: m => by
    simp only [eqBs, List.cons_beq_cons]
    by_cases e : a = b
    · subst e; simp [eqBs_eq l m]
    · rw [beqF (fun h => e (UInt8.toNat_inj.1 h))]; symm; simp [e]
theorem eqStr (a b : ByteArray) : eqBs a.data.toList b.data.toList = (a.toList == b.toList) := by
  rw [eqBs_eq, ByteArray.toList_eq, ByteArray.toList_eq]
theorem snd_move {x : Operand} (ho : o.op = .move x ∨ o.op = .assign x) (H : HR P w0 φ h w) (hv : LR φ vs ([x].map ρ)) (e : ev_move vs h k = true) : PR P w0 φ h ((execOp ρ o).run P w) fun v h' => k v h' = true := by
  obtain ⟨a, hsub, e'⟩ := a1_t e; clear e; subst hsub; have e := e'; clear e'
  obtain ⟨a', ha, hr⟩ := hv.one
  simp at ha; subst ha
  rcases ho with ho | ho <;> exact .same H (by simp [execOp, ho]) hr e
theorem snd_pick {c a b : Operand} (ho : o.op = .pick c a b) (H : HR P w0 φ h w) (hv : LR φ vs ([c, a, b].map ρ)) (e : ev_pick vs h k = true) : PR P w0 φ h ((execOp ρ o).run P w) fun v h' => k v h' = true := by
  obtain ⟨vc, va, vb, hsub, e'⟩ := a3_t e; clear e; subst hsub; have e := e'; clear e'
  obtain ⟨t, hsub, e'⟩ := boolK_t e; clear e; subst hsub; have e := e'; clear e'
  obtain ⟨c', a', b', hx, hc, ha, hb⟩ := hv.three
  simp at hx
  obtain ⟨h1, h2, h3⟩ := hx
  subst h1 h2 h3
  have hC : ρ c = .bool t := by generalize ρ c = C at hc; cases hc; rfl
  cases t with
  | true => exact .same H (by simp [execOp, ho, asBool, hC]) ha e
  | false => exact .same H (by simp [execOp, ho, asBool, hC]) hb e
theorem PR.newRow (H : HR P w0 φ h w) {ty : TypeId} {l l' : List Value} (hl : LR φ l l') {c : NT Value} {ob' : NT AO} (hc : ∀ j v, l[j]? = some v → c.get j = some v)
    (hset : h.ob.IsSet h.nx (some (.cells 0 l.length ty true c)) ob') :
    HR P w0 (φ.put h.nx (.live w.heap.size 0 l'.length)) ⟨h.nx + 1, ob'⟩ (w.alloc (.cells l'.toArray ty)) ∧ Ext h.nx φ (φ.put h.nx (.live w.heap.size 0 l'.length)) := by
  refine H.newAt (H.fresh _ (Nat.le_refl _)) hset.1 (fun g hg _ => hset.2 g hg) (fun g hg => H.fresh g (by simp only at hg; omega)) (fun g hg => by rw [hset.2 g (by simp only at hg; omega)]; exact H.top g (by simp only at hg; omega)) (by simp) _ (Nat.le_refl _) ?_
  refine .cells _ _ _ _ _ _ _ _ _ (fun _ => rfl) (Nat.le_refl _) (by simp) fun p _ hp => ?_
  obtain ⟨u, hu, hr⟩ := LR.get hl p _ (List.getElem?_eq_getElem hp)
  exact ⟨l[p], u, hc p _ (List.getElem?_eq_getElem hp), by simpa using hu, hr⟩
theorem PR.newPtr {φ : Phi} {f B n : Nat} : VR (φ.put f (.live B 0 n)) (mkP f 0) (.pointer (some ⟨B, 0, none⟩)) := by
  refine .ptr _ _ (by simp [Phi.put]) fun b d n h => ?_
  simp only [Phi.put_same] at h
  cases h
  exact ⟨rfl, rfl, rfl⟩
theorem PR.cellsNew {r : Result Next} (H : HR P w0 φ h w) {ty : TypeId} {l l' : List Value} (hl : LR φ l l') {k : KV} (e : newCells h ty l (fun b h => k (mkP b 0) h) = true)
    (hr : r = .ok (.value (.pointer (some ⟨w.heap.size, 0, none⟩))) (w.alloc (.cells l'.toArray ty))) : PR P w0 φ h r fun v h' => k v h' = true := by
  obtain ⟨hone, c, ob', h1, h2, h3⟩ := newCells_t e
  obtain ⟨g1, g2⟩ := PR.newRow H hl h1 h2
  exact ⟨_, _, _, _, _, .inl hr, h3, g2, by simp, PR.newPtr, g1⟩
theorem snd_alloc {ty : TypeId} {z : Value} (ho : o.op = .alloc ty) (hz : zeroOf P ty = some z) (H : HR P w0 φ h w) (e : ev_alloc ty z.cells.toList vs h k = true) : PR P w0 φ h ((execOp ρ o).run P w) fun v h' => k v h' = true := by
  obtain ⟨i, hi, hz, hok⟩ := zeroOf_t hz
  obtain ⟨hsub, e'⟩ := a0_t e; clear e; subst hsub; have e := e'; clear e'
  refine PR.cellsNew H (VR.cells (okC_VR hok)) e ?_
  simp [execOp, ho, Instr.alloc, run_zero' hi hz, newVar, newRow, World.alloc_eq]
theorem snd_box {ty : TypeId} {x : Operand} (ho : o.op = .box ty x) (H : HR P w0 φ h w) (hv : LR φ vs ([x].map ρ)) (e : ev_box ty vs h k = true) : PR P w0 φ h ((execOp ρ o).run P w) fun v h' => k v h' = true := by
  obtain ⟨a, hsub, e'⟩ := a1_t e; clear e; subst hsub; have e := e'; clear e'
  obtain ⟨a', ha, hr⟩ := hv.one
  simp at ha; subst ha
  rw [cellsOf_eq] at e
  refine PR.cellsNew H (VR.cells hr) e ?_
  simp [execOp, ho, Instr.box, newVar, newRow, World.alloc_eq]
theorem VR.ptr_inv {a : Addr} {v' : Value} (h : VR φ (.pointer (some a)) v') : ∃ a', v' = .pointer (some a') ∧ φ a.block ≠ none ∧ AtR φ a a' := by
  cases h with | ptr _ a' h1 h2 => exact ⟨a', rfl, h1, h2⟩
theorem VR.sl_inv {a : Addr} {l c : Nat} {v' : Value} (h : VR φ (.slice (some a) l c) v') : ∃ a' c', v' = .slice (some a') l c' ∧ φ a.block ≠ none ∧ CapR φ a a' l c c' := by
  cases h with | sl _ a' _ _ c' h1 h2 => exact ⟨a', c', rfl, h1, h2⟩
theorem VR.nils_inv {l c : Nat} {v' : Value} (h : VR φ (.slice none l c) v') : l = 0 ∧ c = 0 ∧ v' = .slice none 0 0 := by
  cases h; exact ⟨rfl, rfl, rfl⟩
theorem VR.int_inv {kd : IntKind} {n : Int} {v' : Value} (h : VR φ (.int kd n) v') : v' = .int kd n := by cases h; rfl
theorem VR.bool_inv {b : Bool} {v' : Value} (h : VR φ (.bool b) v') : v' = .bool b := by cases h; rfl
theorem VR.str_inv {s : ByteArray} {v' : Value} (h : VR φ (.string s) v') : v' = .string s := by cases h; rfl
theorem VR.agg_inv {a : Array Value} {v' : Value} (h : VR φ (.agg a) v') : ∃ a', v' = .agg a' ∧ LR φ a.toList a'.toList := by
  cases h with | agg _ a' h => exact ⟨a', rfl, h⟩
theorem VR.tup_inv {a : Array Value} {v' : Value} (h : VR φ (.tuple a) v') : ∃ a', v' = .tuple a' ∧ LR φ a.toList a'.toList := by
  cases h with | tup _ a' h => exact ⟨a', rfl, h⟩
theorem VR.map_inv {r : Nat} {v' : Value} (h : VR φ (.map (some r)) v') : ∃ r', v' = .map (some r') ∧ φ r ≠ none ∧ ∀ b d n, φ r = some (.live b d n) → r' = b := by
  cases h with | map _ r' h1 h2 => exact ⟨r', rfl, h1, h2⟩
theorem VR.nilm_inv {v' : Value} (h : VR φ (.map none) v') : v' = .map none := by cases h; rfl
theorem snd_load1 {t : TypeId} {d : TypeDesc} {x : Operand} (ho : o.op = .load t x) (hu : P.underlying t = some d) (hd : isAggD d = false) (H : HR P w0 φ h w) (hv : LR φ vs ([x].map ρ)) (e : ev_load1 vs h k = true) : PR P w0 φ h ((execOp ρ o).run P w) fun v h' => k v h' = true := by
  obtain ⟨p, hsub, e'⟩ := a1_t e; clear e; subst hsub; have e := e'; clear e'
  obtain ⟨p', hp, hr⟩ := hv.one
  simp at hp; subst hp
  obtain ⟨a, hsub, e'⟩ := ptrK_t e; clear e; subst hsub; have e := e'; clear e'
  obtain ⟨a', ha, hs, hat⟩ := hr.ptr_inv
  obtain ⟨lo, hi, ty, rw, c, v, h1, h2, h3, h4, h5⟩ := read1_t e
  obtain ⟨v', hc, hvr⟩ := H.cell hs hat h1 (j := 0) (by omega) (by omega) (by simpa using h4)
  refine .same H ?_ hvr h5
  have : a'.add 0 = a' := rfl
  rw [this] at hc
  simp [execOp, ho, ha, Instr.loadAt, Instr.sureAddr, loadVar, run_isAgg' hu, hd, hc]
theorem snd_loadN {t : TypeId} {d : TypeDesc} {n : Nat} {x : Operand} (ho : o.op = .load t x) (hu : P.underlying t = some d) (hd : isAggD d = true) (hz : szOf P t = some n) (H : HR P w0 φ h w) (hv : LR φ vs ([x].map ρ)) (e : ev_loadN n vs h k = true) : PR P w0 φ h ((execOp ρ o).run P w) fun v h' => k v h' = true := by
  obtain ⟨i, hi, rfl⟩ := szOf_t hz
  obtain ⟨p, hsub, e'⟩ := a1_t e; clear e; subst hsub; have e := e'; clear e'
  obtain ⟨p', hp, hr⟩ := hv.one
  simp at hp; subst hp
  obtain ⟨a, hsub, e'⟩ := ptrK_t e; clear e; subst hsub; have e := e'; clear e'
  obtain ⟨a', ha, hs, hat⟩ := hr.ptr_inv
  obtain ⟨lo, hii, ty, rw, c, l, h1, h2, h3, h4, h5, h6⟩ := readAt_t e
  obtain ⟨l', hl, hrun⟩ := H.cells hs hat h1 h2 (by omega) h5
  refine .same H ?_ (.agg ⟨l⟩ l'.toArray (by simpa using hl)) h6
  rw [h4] at hrun
  simp [execOp, ho, ha, Instr.loadAt, Instr.sureAddr, loadVar, run_isAgg' hu, hd, run_size' hi, hrun w rfl]
theorem snd_store {t : TypeId} {n : Nat} {x y : Operand} (ho : o.op = .store t x y) (hz : szOf P t = some n) (H : HR P w0 φ h w) (hv : LR φ vs ([x, y].map ρ)) (e : ev_store n vs h k = true) : PR P w0 φ h ((execOp ρ o).run P w) fun v h' => k v h' = true := by
  obtain ⟨i, hi, rfl⟩ := szOf_t hz
  obtain ⟨p, v, hsub, e'⟩ := a2_t e; clear e; subst hsub; have e := e'; clear e'
  obtain ⟨p', v', hp, hr, hvr⟩ := hv.two
  simp at hp; obtain ⟨e1, e2⟩ := hp; subst e1 e2
  obtain ⟨a, hsub, e'⟩ := ptrK_t e; clear e; subst hsub; have e := e'; clear e'
  obtain ⟨a', ha, hs, hat⟩ := hr.ptr_inv
  obtain ⟨hle, e⟩ := iff_t e
  have hle := lenEq_t _ hle
  rw [cellsOf_eq] at hle e
  obtain ⟨lo, hii, ty, c, c', ob', g1, g2, g3, g4, g5, g6, g7, g8⟩ := writeAt_t e
  have hcl := VR.cells hvr
  obtain ⟨w', hrun, HH, _⟩ := H.write hs hat g1 g2 g3 hcl g4 g5 g6 g7
  refine ⟨undef, w', undef, _, φ, .inr ⟨?_, rfl⟩, g8, Ext.refl _ _, Nat.le_refl _, VR.undef _, HH⟩
  have hsz : (ρ y).cells.size = i.size := by rw [← hle, LR.length hcl]; simp
  simp [execOp, ho, ha, Instr.storeAt, Instr.sureAddr, storeVar, run_size' hi, hsz, hrun]
theorem snd_nilCheck {x : Operand} (ho : o.op = .nilCheck x) (H : HR P w0 φ h w) (hv : LR φ vs ([x].map ρ)) (e : ev_nilCheck vs h k = true) : PR P w0 φ h ((execOp ρ o).run P w) fun v h' => k v h' = true := by
  obtain ⟨a, hsub, e'⟩ := a1_t e; clear e; subst hsub; have e := e'; clear e'
  obtain ⟨a', ha, hr⟩ := hv.one
  simp at ha; subst ha
  obtain ⟨h1, h2⟩ := iff_t e
  refine .same H ?_ hr h2
  generalize hA : ρ x = A at hr
  simp only [execOp, ho, hA]
  cases hr with
  | func fn fn' first first' capt capt' hf _ _ =>
    cases hf with
    | func f => rfl
    | method s => simp [nilOk] at h1
    | yield l l' _ _ => rfl
  | nilp => simp [nilOk] at h1
  | nilf => simp [nilOk] at h1
  | nili => simp [nilOk] at h1
  | _ => rfl
theorem snd_fieldAddr {s : TypeId} {x : Operand} {f : Nat} {fs : Array Field} {fl : Field} {sz : Nat} (ho : o.op = .fieldAddr s x f) (hu : P.underlying s = some (.struct fs)) (hf : fs[f]? = some fl) (hz : szOf P fl.type = some sz) (hsz : sz ≠ 0)
    (H : HR P w0 φ h w) (hv : LR φ vs ([x].map ρ)) (e : ev_fieldAddr fl.offset vs h k = true) : PR P w0 φ h ((execOp ρ o).run P w) fun v h' => k v h' = true := by
  obtain ⟨i, hi, rfl⟩ := szOf_t hz
  obtain ⟨p, hsub, e'⟩ := a1_t e; clear e; subst hsub; have e := e'; clear e'
  obtain ⟨p', hp, hr⟩ := hv.one
  simp at hp; subst hp
  obtain ⟨a, hsub, e'⟩ := ptrK_t e; clear e; subst hsub; have e := e'; clear e'
  rw [fN_eq] at e
  obtain ⟨a', ha, hs, hat⟩ := hr.ptr_inv
  refine .same H (v' := .pointer (some (a'.add fl.offset))) ?_ (.ptr ⟨a.block, a.off + fl.offset, none⟩ _ hs fun b d n hl => ?_) e
  · simp [execOp, ho, ha, Instr.fieldAt, Instr.sureAddr, run_underlying hu, hf, fieldPlace, run_size' hi, hsz]
  · obtain ⟨e1, e2, e3⟩ := hat b d n hl
    rw [addr_add a' e3]
    exact ⟨e1, by show a'.off + fl.offset + d = a.off + fl.offset; omega, rfl⟩
theorem snd_field1 {s : TypeId} {x : Operand} {f : Nat} {fs : Array Field} {fl : Field} {d : TypeDesc} (ho : o.op = .field s x f) (hu : P.underlying s = some (.struct fs)) (hf : fs[f]? = some fl) (hd : P.underlying fl.type = some d) (ha : isAggD d = false)
    (H : HR P w0 φ h w) (hv : LR φ vs ([x].map ρ)) (e : ev_field1 fl.offset vs h k = true) : PR P w0 φ h ((execOp ρ o).run P w) fun v h' => k v h' = true := by
  obtain ⟨p, hsub, e'⟩ := a1_t e; clear e; subst hsub; have e := e'; clear e'
  obtain ⟨p', hp, hr⟩ := hv.one
  simp at hp; subst hp
  obtain ⟨a, hsub, e'⟩ := aggK_t e; clear e; subst hsub; have e := e'; clear e'
  obtain ⟨a', hx, hl⟩ := hr.agg_inv
  obtain ⟨v, h1, h2⟩ := nthK_t _ e
  obtain ⟨v', h3, h4⟩ := LR.get hl _ _ h1
  refine .same H ?_ h4 h2
  have h3' : a'[fl.offset]? = some v' := by simpa using h3
  simp [execOp, ho, hx, Instr.field, run_underlying hu, hf, asAgg, part, run_isAgg' hd, ha, h3']
theorem snd_fieldN {s : TypeId} {x : Operand} {f : Nat} {fs : Array Field} {fl : Field} {d : TypeDesc} {n : Nat} (ho : o.op = .field s x f) (hu : P.underlying s = some (.struct fs)) (hf : fs[f]? = some fl) (hd : P.underlying fl.type = some d) (ha : isAggD d = true) (hz : szOf P fl.type = some n)
    (H : HR P w0 φ h w) (hv : LR φ vs ([x].map ρ)) (e : ev_fieldN fl.offset n vs h k = true) : PR P w0 φ h ((execOp ρ o).run P w) fun v h' => k v h' = true := by
  obtain ⟨i, hi, rfl⟩ := szOf_t hz
  obtain ⟨p, hsub, e'⟩ := a1_t e; clear e; subst hsub; have e := e'; clear e'
  obtain ⟨p', hp, hr⟩ := hv.one
  simp at hp; subst hp
  obtain ⟨a, hsub, e'⟩ := aggK_t e; clear e; subst hsub; have e := e'; clear e'
  obtain ⟨a', hx, hl⟩ := hr.agg_inv
  obtain ⟨e, h1⟩ := dropK_t _ e
  obtain ⟨e, h2⟩ := takeK_t _ e
  refine .same H (v' := .agg (a'.extract fl.offset (fl.offset + i.size))) ?_ (.agg _ _ ?_) e
  · simp [execOp, ho, hx, Instr.field, run_underlying hu, hf, asAgg, part, run_isAgg' hd, ha, run_size' hi]
  · have := (hl.drop fl.offset).take i.size
    simpa [Array.toList_extract, List.extract_eq_drop_take'] using this
theorem snd_idxSlice {t e' : TypeId} {x y : Operand} {n : Nat} (ho : o.op = .indexAddr t x y) (hu : P.underlying t = some (.slice e')) (hz : szOf P e' = some n) (H : HR P w0 φ h w) (hv : LR φ vs ([x, y].map ρ)) (e : ev_idxSlice n vs h k = true) : PR P w0 φ h ((execOp ρ o).run P w) fun v h' => k v h' = true := by
  obtain ⟨i, hi, rfl⟩ := szOf_t hz
  obtain ⟨p, q, hsub, e'⟩ := a2_t e; clear e; subst hsub; have e := e'; clear e'
  obtain ⟨p', q', hp, hr, hq⟩ := hv.two
  simp at hp; obtain ⟨e1, e2⟩ := hp; subst e1 e2
  obtain ⟨kd, m, hsub, e'⟩ := natK_t e; clear e; subst hsub; have e := e'; clear e'
  rcases slK_t e with ⟨_, _, _, e'⟩ | ⟨a, l, c, hsub, e'⟩
  · cases e'
  clear e; subst hsub; have e := e'; clear e'
  obtain ⟨hlt, e⟩ := iff_t e
  have hlt := Nat.le_of_ble_eq_true hlt
  rw [fN_eq] at e
  obtain ⟨a', c', hx, hs, hc⟩ := hr.sl_inv
  have hat : AtR φ a a' := by
    rcases hc with ⟨h1, h2, h2', h3⟩ | ⟨sz, h1, h2, h3, h4⟩
    · exact h3 (by omega)
    · exact (h4 (by omega)).1
  have hlt' : m < l := hlt
  refine .same H (v' := .pointer (some (a'.add (m * i.size)))) ?_ (.ptr ⟨a.block, a.off + m * i.size, none⟩ _ hs fun b d n hl => ?_) e
  · simp only [execOp, ho, hx, hq.int_inv]
    simp [Instr.indexAt, asIntOf, run_underlying hu, run_size' hi, hlt']
  · obtain ⟨e1, e2, e3⟩ := hat b d n hl
    rw [addr_add a' e3]
    exact ⟨e1, by show a'.off + m * i.size + d = a.off + m * i.size; omega, rfl⟩
theorem snd_idxArr {t e' : TypeId} {x y : Operand} {len n : Nat} (ho : o.op = .indexAddr t x y) (hu : P.underlying t = some (.array len e')) (hz : szOf P e' = some n) (H : HR P w0 φ h w) (hv : LR φ vs ([x, y].map ρ)) (e : ev_idxArr len n vs h k = true) : PR P w0 φ h ((execOp ρ o).run P w) fun v h' => k v h' = true := by
  obtain ⟨i, hi, rfl⟩ := szOf_t hz
  obtain ⟨p, q, hsub, e1⟩ := a2_t e; clear e; subst hsub; have e := e1; clear e1
  obtain ⟨p', q', hp, hr, hq⟩ := hv.two
  simp at hp; obtain ⟨e1, e2⟩ := hp; subst e1 e2
  obtain ⟨kd, m, hsub, e1⟩ := natK_t e; clear e; subst hsub; have e := e1; clear e1
  obtain ⟨a, hsub, e1⟩ := ptrK_t e; clear e; subst hsub; have e := e1; clear e1
  obtain ⟨hlt, e⟩ := iff_t e
  have hlt : m < len := Nat.le_of_ble_eq_true hlt
  rw [fN_eq] at e
  obtain ⟨a', hx, hs, hat⟩ := hr.ptr_inv
  refine .same H (v' := .pointer (some (a'.add (m * i.size)))) ?_ (.ptr ⟨a.block, a.off + m * i.size, none⟩ _ hs fun b d n hl => ?_) e
  · simp only [execOp, ho, hx, hq.int_inv]
    simp [Instr.indexAt, Instr.sureAddr, asIntOf, run_underlying hu, run_size' hi, hlt]
  · obtain ⟨e1, e2, e3⟩ := hat b d n hl
    rw [addr_add a' e3]
    exact ⟨e1, by show a'.off + m * i.size + d = a.off + m * i.size; omega, rfl⟩
theorem snd_index1 {t e' : TypeId} {x y : Operand} {len : Nat} {d : TypeDesc} (ho : o.op = .index t x y) (hu : P.underlying t = some (.array len e')) (hd : P.underlying e' = some d) (ha : isAggD d = false) (hz : szOf P e' = some 1) (H : HR P w0 φ h w) (hv : LR φ vs ([x, y].map ρ)) (e : ev_index1 len vs h k = true) : PR P w0 φ h ((execOp ρ o).run P w) fun v h' => k v h' = true := by
  obtain ⟨i, hi, h1⟩ := szOf_t hz
  obtain ⟨p, q, hsub, e1⟩ := a2_t e; clear e; subst hsub; have e := e1; clear e1
  obtain ⟨p', q', hp, hr, hq⟩ := hv.two
  simp at hp; obtain ⟨e1, e2⟩ := hp; subst e1 e2
  obtain ⟨kd, m, hsub, e1⟩ := natK_t e; clear e; subst hsub; have e := e1; clear e1
  obtain ⟨a, hsub, e1⟩ := aggK_t e; clear e; subst hsub; have e := e1; clear e1
  obtain ⟨hlt, e⟩ := iff_t e
  have hlt : m < len := Nat.le_of_ble_eq_true hlt
  obtain ⟨a', hx, hl⟩ := hr.agg_inv
  obtain ⟨v, g1, g2⟩ := nthK_t _ e
  obtain ⟨v', g3, g4⟩ := LR.get hl _ _ g1
  refine .same H ?_ g4 g2
  have g3' : a'[m]? = some v' := by simpa using g3
  simp only [execOp, ho, hx, hq.int_inv]
  simp [Instr.index, asIntOf, run_underlying hu, run_size' hi, h1, hlt, part, run_isAgg' hd, ha, g3']
theorem snd_indexN {t e' : TypeId} {x y : Operand} {len n : Nat} {d : TypeDesc} (ho : o.op = .index t x y) (hu : P.underlying t = some (.array len e')) (hd : P.underlying e' = some d) (ha : isAggD d = true) (hz : szOf P e' = some n) (H : HR P w0 φ h w) (hv : LR φ vs ([x, y].map ρ)) (e : ev_indexN len n vs h k = true) : PR P w0 φ h ((execOp ρ o).run P w) fun v h' => k v h' = true := by
  obtain ⟨i, hi, rfl⟩ := szOf_t hz
  obtain ⟨p, q, hsub, e1⟩ := a2_t e; clear e; subst hsub; have e := e1; clear e1
  obtain ⟨p', q', hp, hr, hq⟩ := hv.two
  simp at hp; obtain ⟨e1, e2⟩ := hp; subst e1 e2
  obtain ⟨kd, m, hsub, e1⟩ := natK_t e; clear e; subst hsub; have e := e1; clear e1
  obtain ⟨a, hsub, e1⟩ := aggK_t e; clear e; subst hsub; have e := e1; clear e1
  obtain ⟨hlt, e⟩ := iff_t e
  have hlt : m < len := Nat.le_of_ble_eq_true hlt
  obtain ⟨a', hx, hl⟩ := hr.agg_inv
  obtain ⟨e, _⟩ := dropK_t _ e
  obtain ⟨e, _⟩ := takeK_t _ e
  refine .same H (v' := .agg (a'.extract (m * i.size) (m * i.size + i.size))) ?_ (.agg _ _ ?_) e
  · simp only [execOp, ho, hx, hq.int_inv]
    simp [Instr.index, asIntOf, run_underlying hu, run_size' hi, hlt, part, run_isAgg' hd, ha]
  · have := (hl.drop (m * i.size)).take i.size
    simpa [Array.toList_extract, List.extract_eq_drop_take'] using this
theorem snd_indexS {t : TypeId} {x y : Operand} (ho : o.op = .index t x y) (hu : P.underlying t = some .string) (H : HR P w0 φ h w) (hv : LR φ vs ([x, y].map ρ)) (e : ev_indexS vs h k = true) : PR P w0 φ h ((execOp ρ o).run P w) fun v h' => k v h' = true := by
  obtain ⟨p, q, hsub, e1⟩ := a2_t e; clear e; subst hsub; have e := e1; clear e1
  obtain ⟨p', q', hp, hr, hq⟩ := hv.two
  simp at hp; obtain ⟨e1, e2⟩ := hp; subst e1 e2
  obtain ⟨kd, m, hsub, e1⟩ := natK_t e; clear e; subst hsub; have e := e1; clear e1
  obtain ⟨s, hsub, e1⟩ := strK_t e; clear e; subst hsub; have e := e1; clear e1
  split at e
  · rename_i c hc
    rw [fN_eq] at e
    refine .same H ?_ (.int _ _) e
    have hs : s[m]? = some c := by
      have h1 : m < s.data.size := by simpa using (List.getElem?_eq_some_iff.1 hc).1
      have h2 : m < s.size := h1
      rw [getElem?_pos s m h2]
      simp only [Option.some.injEq]
      have h3 : s.data[m]'h1 = c := by simpa using (List.getElem?_eq_some_iff.1 hc).2
      exact h3
    simp only [execOp, ho, hr.str_inv, hq.int_inv]
    simp [Instr.index, asIntOf, run_underlying hu, hs]
  · cases e
theorem snd_iop {op : BinOp} {t u : TypeId} {x y : Operand} (ho : o.op = .binOp op t x y u) (H : HR P w0 φ h w) (hv : LR φ vs ([x, y].map ρ)) (e : ev_iop op vs h k = true) : PR P w0 φ h ((execOp ρ o).run P w) fun v h' => k v h' = true := by
  obtain ⟨p, q, hsub, e1⟩ := a2_t e; clear e; subst hsub; have e := e1; clear e1
  obtain ⟨p', q', hp, hr, hq⟩ := hv.two
  simp at hp; obtain ⟨e1, e2⟩ := hp; subst e1 e2
  obtain ⟨kx, a, hsub, e1⟩ := intK_t e; clear e; subst hsub; have e := e1; clear e1
  obtain ⟨ky, b, hsub, e1⟩ := intK_t e; clear e; subst hsub; have e := e1; clear e1
  have hg : (eqGuard op t x y (.int kx a) (.int ky b)).run P w = .ok () w := by
    unfold eqGuard
    split <;> simp
  have hx := hr.int_inv
  have hy := hq.int_inv
  have fin : ∀ {v : Value}, VR φ v v → (binOp op t (.int kx a) (.int ky b)).run P w = .ok v w → k v h = true → PR P w0 φ h ((execOp ρ o).run P w) fun v h' => k v h' = true :=
    fun hvv hrun hk => .same H (by simp only [execOp, ho, hx, hy]; simp [hg, hrun]) hvv hk
  cases op <;> simp only [iopD] at e <;> first | (cases e; done) | skip
  case shr =>
    unfold shrE at e
    split at e
    · rename_i x' y'
      cases hb : Nat.ble y' 64 with
      | false => rw [hb] at e; cases e
      | true =>
        rw [hb] at e
        simp only [cond_true, fN_eq] at e
        have hle := Nat.le_of_ble_eq_true hb
        refine fin (.int _ _) ?_ e
        have hm : min y' 64 = y' := by omega
        have h1 : ¬ (Int.ofNat y' < 0) := by simp only [Int.ofNat_eq_natCast]; omega
        have hf : (Int.ofNat x').fdiv (2 ^ y') = Int.ofNat (Nat.shiftRight x' y') := by
          show (x' : Int).fdiv (2 ^ y') = ((x' >>> y' : Nat) : Int)
          have h2 : (2 : Int) ^ y' = ((2 ^ y' : Nat) : Int) := by simp
          rw [Nat.shiftRight_eq_div_pow, h2, Int.fdiv_eq_ediv_of_nonneg _ (Int.natCast_nonneg _), Int.natCast_ediv]
        have ht : (Int.ofNat y').toNat = y' := rfl
        simp only [binOp, Op.shift, IntKind.bits, h1, if_false, ht, hm, hf, Sem.run_pure]
    · cases e
  all_goals
    obtain ⟨hk, e2⟩ := iff_t e
    clear e; have e := e2; clear e2
    obtain rfl := eqK_t hk
    simp only [iopE] at e
  case add => unfold opAdd at e; rw [fI_eq, wrapQ_eq] at e; exact fin (.int _ _) (by simp [binOp, Op.intArith]) e
  case sub => unfold opSub at e; rw [fI_eq, wrapQ_eq] at e; exact fin (.int _ _) (by simp [binOp, Op.intArith]; rfl) e
  case mul => unfold opMul at e; rw [fI_eq, wrapQ_eq] at e; exact fin (.int _ _) (by simp [binOp, Op.intArith]) e
  case quo =>
    unfold opQuo at e
    rw [eqI_eq] at e
    cases hb : (b == Int.ofNat 0) with
    | true => rw [hb] at e; cases e
    | false =>
      rw [hb] at e
      simp only [cond_false, fI_eq, wrapQ_eq] at e
      have hne : b ≠ 0 := by intro h0; subst h0; simp at hb
      exact fin (.int _ _) (by simp [binOp, Op.intDiv, hne]) e
  case rem =>
    unfold opRem at e
    rw [eqI_eq] at e
    cases hb : (b == Int.ofNat 0) with
    | true => rw [hb] at e; cases e
    | false =>
      rw [hb] at e
      simp only [cond_false, fI_eq] at e
      have hne : b ≠ 0 := by intro h0; subst h0; simp at hb
      exact fin (.int _ _) (by simp [binOp, Op.intDiv, hne]) e
  case eql => unfold opEql at e; rw [fB_eq, eqI_eq] at e; exact fin (.bool _) (by simp [binOp, Op.intCmp]) e
  case neq => unfold opNeq at e; rw [fB_eq, eqI_eq] at e; exact fin (.bool _) (by simp [binOp, Op.intCmp, bne]) e
  case lss => unfold opLss at e; rw [fB_eq, ltI_eq] at e; exact fin (.bool _) (by simp [binOp, Op.intCmp]) e
  case leq => unfold opLeq at e; rw [fB_eq, ltI_eq] at e; exact fin (.bool _) (by simp [binOp, Op.intCmp, dle]) e
  case gtr => unfold opGtr at e; rw [fB_eq, ltI_eq] at e; exact fin (.bool _) (by simp [binOp, Op.intCmp]) e
  case geq => unfold opGeq at e; rw [fB_eq, ltI_eq] at e; exact fin (.bool _) (by simp [binOp, Op.intCmp, dle]) e
  case and =>
    unfold opAnd at e
    split at e
    · rename_i x' y'
      cases hb : (Nat.ble x' 18446744073709551615 && Nat.ble y' 18446744073709551615) with
      | false => rw [hb] at e; cases e
      | true =>
        rw [hb] at e
        simp only [cond_true, fN_eq] at e
        simp only [Bool.and_eq_true] at hb
        have hb1 := Nat.le_of_ble_eq_true hb.1
        have hb2 := Nat.le_of_ble_eq_true hb.2
        refine fin (.int _ _) ?_ e
        have h1 : (BitVec.ofInt 64 (Int.ofNat x') &&& BitVec.ofInt 64 (Int.ofNat y')).toNat = Nat.land x' y' := by
          simp only [Int.ofNat_eq_natCast, BitVec.ofInt_natCast, BitVec.toNat_and, BitVec.toNat_ofNat]
          rw [Nat.mod_eq_of_lt (by omega), Nat.mod_eq_of_lt (by omega)]
          rfl
        have h2 : Nat.land x' y' ≤ x' := Nat.and_le_left
        have h3 : IntKind.u64.wrap (Int.ofNat (Nat.land x' y')) = Int.ofNat (Nat.land x' y') := IntWalk.u64_in _ ⟨by simp only [Int.ofNat_eq_natCast]; omega, by simp only [Int.ofNat_eq_natCast]; omega⟩
        have h4 : (binOp .and t (.int .u64 (Int.ofNat x')) (.int .u64 (Int.ofNat y'))).run P w = .ok (.int .u64 (IntKind.u64.wrap (Int.ofNat (BitVec.ofInt 64 (Int.ofNat x') &&& BitVec.ofInt 64 (Int.ofNat y')).toNat))) w := rfl
        rw [h4, h1, h3]
    · cases e
  all_goals (unfold opNo at e; cases e)
end
end Go.Ve
