/- Part 13: VEval, part 52: for whatever can be read as plain data there is an abstract heap that stands for it. Condition: the types are plain. And what follows it. -/
import Derived.Test.YteeibihhdldjfaaGreatDoorVeL
import Derived.DataReads
set_option linter.unusedVariables false
set_option linter.unusedSimpArgs false
namespace Go.Ve
open Go.ChangeShapes Go.WideShapes Go.ChangeAt Go.RowKit
section
variable {H : Type} {enc : TypeId × Value → H} {P : Program}
def tileB (P : Program) : Nat → List Field → Nat → Bool
  | o, [], n => o == n
  | o, f :: fs, n => f.offset == o && tileB P (o + P.cellsOf f.type) fs n
def plainT (P : Program) : Nat → TypeId → Bool
  | 0, _ => false
  | n + 1, t => match P.underlying t with
    | some .bool => true
    | some (.int _) => true
    | some .string => true
    | some (.slice e) => decide (0 < P.cellsOf e) && plainT P n e
    | some (.struct fs) => tileB P 0 fs.toList (P.cellsOf t) && fs.toList.all fun f => plainT P n f.type
    | some (.array k e) => (k * P.cellsOf e == P.cellsOf t) && plainT P n e
    | _ => false
def Imp (P : Program) (W : World) (t : TypeId) (cs' : List Value) (d : DataW H) : Prop :=
  ∀ (φ : Phi) (h : AH), HR P W φ h W → ∃ φ' h' cs, HR P W φ' h' W ∧ Ext h.nx φ φ' ∧ Keep h h' ∧ LR φ' cs cs' ∧ AD P h' t cs d
theorem imp_list {W : World} {t : TypeId} : ∀ (l : List (List Value × DataW H)), (∀ x ∈ l, Imp P W t x.1 x.2) → ∀ (φ : Phi) (h : AH), HR P W φ h W →
    ∃ (φ' : Phi) (h' : AH) (css : List (List Value)), HR P W φ' h' W ∧ Ext h.nx φ φ' ∧ Keep h h' ∧ css.length = l.length ∧ ∀ (i : Nat) (cs : List Value) (x : List Value × DataW H), css[i]? = some cs → l[i]? = some x → LR φ' cs x.1 ∧ AD P h' t cs x.2 := by
  intro l
  induction l with
  | nil => intro _ φ h R; exact ⟨φ, h, [], R, Ext.refl _ _, Keep.refl _, rfl, fun i cs x h1 => by simp at h1⟩
  | cons x l ih =>
    intro hall φ h R
    obtain ⟨φ1, h1, cs, R1, E1, K1, L1, A1⟩ := hall x List.mem_cons_self φ h R
    obtain ⟨φ2, h2, css, R2, E2, K2, hl, hA⟩ := ih (fun y hy => hall y (List.mem_cons_of_mem _ hy)) φ1 h1 R1
    refine ⟨φ2, h2, cs :: css, R2, E1.trans E2 K1.nx, K1.trans K2, by simp [hl], fun i c y g1 g2 => ?_⟩
    cases i with
    | zero =>
      simp at g1 g2
      subst g1; subst g2
      exact ⟨LR.ext E2 L1, A1.keep K2 R1.top⟩
    | succ i => exact hA i c y (by simpa using g1) (by simpa using g2)
theorem flatGet {α : Type} : ∀ (css : List (List α)) (z : Nat), (∀ cs ∈ css, cs.length = z) → ∀ (i j : Nat) (cs : List α), css[i]? = some cs → j < z → css.flatten[i * z + j]? = cs[j]?
  | [], z, _, i, j, cs, h, _ => by simp at h
  | c :: css, z, hz, 0, j, cs, h, hj => by
    simp at h; subst h
    have : c.length = z := hz c List.mem_cons_self
    rw [List.flatten_cons, Nat.zero_mul, Nat.zero_add, List.getElem?_append_left (by omega)]
  | c :: css, z, hz, i + 1, j, cs, h, hj => by
    have hc : c.length = z := hz c List.mem_cons_self
    rw [List.flatten_cons, List.getElem?_append_right (by rw [hc, Nat.add_mul]; omega)]
    have := flatGet css z (fun x hx => hz x (List.mem_cons_of_mem _ hx)) i j cs (by simpa using h) hj
    rw [← this]
    congr 1
    rw [hc, Nat.add_mul]; omega
theorem flatLen {α : Type} : ∀ (css : List (List α)) (z : Nat), (∀ cs ∈ css, cs.length = z) → css.flatten.length = css.length * z
  | [], z, _ => by simp
  | c :: css, z, hz => by
    rw [List.flatten_cons, List.length_append, flatLen css z (fun x hx => hz x (List.mem_cons_of_mem _ hx)), hz c List.mem_cons_self, List.length_cons, Nat.add_mul]; omega
theorem imp_fields {W : World} {cs' : List Value} {n : Nat} (hcs : cs'.length = n) : ∀ (fs : List Field) (ds : List (DataW H)) (o : Nat), tileB P o fs n = true → ds.length = fs.length →
    (∀ (i : Nat) (f : Field) (d : DataW H), fs[i]? = some f → ds[i]? = some d → Imp P W f.type ((cs'.drop f.offset).take (P.cellsOf f.type)) d) → ∀ (φ : Phi) (h : AH), HR P W φ h W →
    ∃ φ' h' cs, HR P W φ' h' W ∧ Ext h.nx φ φ' ∧ Keep h h' ∧ o ≤ n ∧ LR φ' cs (cs'.drop o) ∧ ∀ (i : Nat) (f : Field) (d : DataW H), fs[i]? = some f → ds[i]? = some d → o ≤ f.offset ∧ AD P h' f.type ((cs.drop (f.offset - o)).take (P.cellsOf f.type)) d := by
  intro fs
  induction fs with
  | nil =>
    intro ds o ht hl _ φ h R
    simp only [tileB, beq_iff_eq] at ht
    exact ⟨φ, h, [], R, Ext.refl _ _, Keep.refl _, by omega, by rw [List.drop_eq_nil_of_le (by omega)]; exact .nil, fun i f d h1 => by simp at h1⟩
  | cons f fs ih =>
    intro ds o ht hl hall φ h R
    simp only [tileB, Bool.and_eq_true, beq_iff_eq] at ht
    obtain ⟨ho, ht⟩ := ht
    cases ds with
    | nil => simp at hl
    | cons d ds =>
      obtain ⟨φ1, h1, c1, R1, E1, K1, L1, A1⟩ := hall 0 f d rfl rfl φ h R
      obtain ⟨φ2, h2, c2, R2, E2, K2, hon, L2, A2⟩ := ih ds (o + P.cellsOf f.type) ht (by simpa using hl) (fun i f' d' g1 g2 => hall (i + 1) f' d' (by simpa using g1) (by simpa using g2)) φ1 h1 R1
      rw [ho] at L1
      have hlen : c1.length = P.cellsOf f.type := by
        rw [L1.length, List.length_take, List.length_drop]; omega
      refine ⟨φ2, h2, c1 ++ c2, R2, E1.trans E2 K1.nx, K1.trans K2, by omega, ?_, fun i f' d' g1 g2 => ?_⟩
      · have : cs'.drop o = (cs'.drop o).take (P.cellsOf f.type) ++ cs'.drop (o + P.cellsOf f.type) := by
          rw [← List.drop_drop, List.take_append_drop]
        rw [this]
        exact LR.append L2 (LR.ext E2 L1)
      · cases i with
        | zero =>
          simp at g1 g2
          subst g1; subst g2
          refine ⟨by omega, ?_⟩
          rw [ho, Nat.sub_self, List.drop_zero, List.take_append_of_le_length (by omega), List.take_of_length_le (by omega)]
          exact A1.keep K2 R1.top
        | succ i =>
          obtain ⟨a1, a2⟩ := A2 i f' d' (by simpa using g1) (by simpa using g2)
          refine ⟨by omega, ?_⟩
          rw [List.drop_append, List.drop_eq_nil_of_le (by omega), List.nil_append]
          rw [show f'.offset - o - c1.length = f'.offset - (o + P.cellsOf f.type) by omega]
          exact a2
theorem imp_slice {W : World} {t e : TypeId} {a : Addr} {len cap : Nat} {els rest : List (DataW H)} (hu : P.underlying t = some (.slice e)) (hz : 0 < P.cellsOf e) (hlen : len ≤ cap) (hcap : cap ≤ maxLen) (hn : els.length = len) (hr : rest.length = cap - len)
    (hel : ∀ (i : Nat) (d : DataW H), (els ++ rest)[i]? = some d → ∃ cs', W.cells? 0 (a.add (i * P.cellsOf e)) (P.cellsOf e) = some cs' ∧ Imp P W e cs' d) : Imp P W t [.slice (some a) len cap] (.slice els rest) := by
  intro φ h R
  have hunk : cap < unk := Nat.lt_of_le_of_lt hcap (by decide)
  rcases Nat.eq_zero_or_pos cap with h0 | h0
  · -- no cell at all
    obtain ⟨R1, E1, K1⟩ := R.noblock
    have he : els = [] := List.eq_nil_of_length_eq_zero (by omega)
    have hr0 : rest = [] := List.eq_nil_of_length_eq_zero (by omega)
    subst he; subst hr0
    have hl0 : len = 0 := by omega
    subst hl0; subst h0
    refine ⟨_, _, [.slice (some ⟨h.nx, 0, none⟩) 0 0], R1, E1, K1, .cons _ _ _ _ (.sl _ _ _ _ _ (by simp [Phi.put]) (.inl ⟨by decide, rfl, Nat.le_refl _, fun hh => absurd hh (Nat.lt_irrefl 0)⟩)) .nil, ?_⟩
    exact .sl t e h.nx 0 0 0 [] [] [] hu rfl (Nat.le_refl _) (Nat.zero_le _) rfl (fun cs hcs => by cases hcs) (AH.rds_nil _ _ _) (fun i cs d h1 => by simp at h1)
  · have hall : (els ++ rest).length = cap := by rw [List.length_append]; omega
    obtain ⟨d0, hd0⟩ : ∃ d, (els ++ rest)[0]? = some d := ⟨(els ++ rest)[0]'(by omega), List.getElem?_eq_getElem (by omega)⟩
    obtain ⟨c0, hc0, _⟩ := hel 0 d0 hd0
    obtain ⟨_, hc0l, hc0c⟩ := World.cells?_some hc0
    have hcell := hc0c 0 hz
    rw [show (a.add (0 * P.cellsOf e)).add 0 = a by rw [Nat.zero_mul]; rfl] at hcell
    have hc00 : c0[0]? = some (c0[0]'(by omega)) := List.getElem?_eq_getElem (by omega)
    rw [hc00] at hcell
    obtain ⟨arr, ty, fr, hw, hsp⟩ : ∃ arr ty fr, W.heap[a.block]? = some (.cells arr ty fr) ∧ a.spot = none := by
      unfold World.cell? at hcell
      split at hcell
      · rename_i arr ty fr hh
        refine ⟨arr, ty, fr, hh, ?_⟩
        split at hcell
        · cases hcell
        · rename_i hs; simpa using hs
      · cases hcell
    have hcellat : ∀ (j : Nat), W.cell? (a.add j) = arr[a.off + j]? := by
      intro j
      rw [addr_add a hsp]
      unfold World.cell?
      simp only [hw]; rfl
    have hels : ∀ (i : Nat) (d : DataW H), els[i]? = some d → ∃ cs', W.cells? 0 (a.add (i * P.cellsOf e)) (P.cellsOf e) = some cs' ∧ Imp P W e cs' d := fun i d hd => hel i d (by rw [List.getElem?_append_left (List.getElem?_eq_some_iff.1 hd).1]; exact hd)
    let l : List (List Value × DataW H) := (List.range len).map fun i => ((W.cells? 0 (a.add (i * P.cellsOf e)) (P.cellsOf e)).getD [], els.getD i .nil)
    have hll : l.length = len := by simp [l]
    have hlg : ∀ (i : Nat) (d : DataW H), els[i]? = some d → l[i]? = some ((W.cells? 0 (a.add (i * P.cellsOf e)) (P.cellsOf e)).getD [], d) := by
      intro i d hd
      have hi : i < len := by rw [← hn]; exact (List.getElem?_eq_some_iff.1 hd).1
      simp [l, hi, List.getD, hd]
    obtain ⟨φ1, h1, css, R1, E1, K1, hcl, hA⟩ := imp_list (P := P) (W := W) (t := e) l (fun x hx => by
      obtain ⟨i, hi⟩ := List.getElem?_of_mem hx
      have hil : i < len := by rw [← hll]; exact (List.getElem?_eq_some_iff.1 hi).1
      have hd : els[i]? = some (els[i]'(by omega)) := List.getElem?_eq_getElem (by omega)
      obtain ⟨cs', g1, g2⟩ := hels i _ hd
      rw [hlg i _ hd] at hi
      cases hi
      rw [g1]
      exact g2) φ h R
    have hzz : ∀ cs ∈ css, cs.length = P.cellsOf e := by
      intro cs hcs
      obtain ⟨i, hi⟩ := List.getElem?_of_mem hcs
      have hil : i < len := by rw [← hll, ← hcl]; exact (List.getElem?_eq_some_iff.1 hi).1
      have hd : els[i]? = some (els[i]'(by omega)) := List.getElem?_eq_getElem (by omega)
      obtain ⟨cs', g1, _⟩ := hels i _ hd
      obtain ⟨L1, _⟩ := hA i cs _ hi (hlg i _ hd)
      rw [g1] at L1
      rw [L1.length]
      exact (World.cells?_some g1).2.1
    have hbl : a.block < W.heap.size := (Array.getElem?_eq_some_iff.1 hw).1
    obtain ⟨h2, R2, E2, K2, hrd, hnx⟩ := R1.look (o := a.off) (l := css.flatten) hw hbl (fun i v hv => by
      have hfl := flatLen css _ hzz
      have hi : i < css.length * P.cellsOf e := by rw [← hfl]; exact (List.getElem?_eq_some_iff.1 hv).1
      have hdm := Nat.div_add_mod i (P.cellsOf e)
      have hmod := Nat.mod_lt i hz
      have hq : i / P.cellsOf e < css.length := Nat.div_lt_of_lt_mul (by rw [Nat.mul_comm]; exact hi)
      have hcs : css[i / P.cellsOf e]? = some (css[i / P.cellsOf e]) := List.getElem?_eq_getElem hq
      have hfg := flatGet css _ hzz _ (i % P.cellsOf e) _ hcs hmod
      rw [show i / P.cellsOf e * P.cellsOf e + i % P.cellsOf e = i by rw [Nat.mul_comm]; exact hdm] at hfg
      rw [hfg] at hv
      have hil : i / P.cellsOf e < len := by omega
      have hd : els[i / P.cellsOf e]? = some (els[i / P.cellsOf e]'(by omega)) := List.getElem?_eq_getElem (by omega)
      obtain ⟨cs', g1, _⟩ := hels _ _ hd
      obtain ⟨L1, _⟩ := hA _ _ _ hcs (hlg _ _ hd)
      rw [g1] at L1
      obtain ⟨v', a1, a2⟩ := L1.get _ _ hv
      obtain ⟨_, b1, b2⟩ := World.cells?_some g1
      have b3 := b2 (i % P.cellsOf e) hmod
      have a1' : cs'[i % P.cellsOf e]? = some v' := a1
      rw [a1'] at b3
      refine ⟨v', ?_, a2⟩
      have e1 : (a.add (i / P.cellsOf e * P.cellsOf e)).add (i % P.cellsOf e) = a.add i := by
        rw [addr_add a hsp, addr_add _ rfl, addr_add a hsp]
        simp only [Addr.mk.injEq, true_and, and_true]
        rw [Nat.mul_comm]; omega
      rw [e1, hcellat] at b3
      exact b3)
    refine ⟨_, h2, [.slice (some ⟨h1.nx, a.off, none⟩) len cap], R2, E1.trans E2 K1.nx, K1.trans K2, .cons _ _ _ _ (.sl _ _ _ _ _ (by simp [Phi.put]) (.inl ⟨hunk, rfl, hlen, fun _ => ?_⟩)) .nil, ?_⟩
    · intro b d n hl
      have hl' : (φ1.put h1.nx (.live a.block 0 arr.size)) h1.nx = some (.live b d n) := hl
      rw [Phi.put_same] at hl'
      cases hl'
      exact ⟨rfl, rfl, hsp⟩
    · exact .sl t e h1.nx a.off len cap els rest css hu hn hlen hcap (by omega) hzz hrd (fun i cs d g1 g2 => ((hA i cs _ g1 (hlg i d g2)).2).keep K2 R1.top)
theorem LR.scal {φ : Phi} {v : Value} (h : VR φ v v) : LR φ [v] [v] := .cons _ _ _ _ h .nil
theorem drop_take_get {α : Type} {l : List α} {o n j : Nat} (hj : j < n) : ((l.drop o).take n)[j]? = l[o + j]? := by
  rw [List.getElem?_take, if_pos hj, List.getElem?_drop]
theorem imp_trod {W : World} : ∀ (n : Nat) (t : TypeId) (cs' : List Value) (x : DataW H × List MemPlace) (fuel : Nat), plainT P n t = true → DataW.trod enc P W 0 (fun _ => true) true fuel t cs' = some x → Imp P W t cs' x.1 := by
  intro n
  induction n with
  | zero => intro t cs' x fuel hp; cases hp
  | succ n ih =>
    intro t cs' x fuel hp ht
    rw [plainT] at hp
    cases hu : P.underlying t with
    | none => rw [hu] at hp; cases hp
    | some ty =>
      rw [hu] at hp
      cases ty <;> first | (exact Bool.noConfusion hp) | skip
      case bool =>
        obtain ⟨b, rfl, rfl⟩ := DataW.trod_bool hu ht
        exact fun φ h R => ⟨φ, h, _, R, Ext.refl _ _, Keep.refl _, LR.scal (.bool _), .bool t _ hu⟩
      case int k =>
        obtain ⟨m, rfl, rfl, hw⟩ := DataW.trod_int hu ht
        exact fun φ h R => ⟨φ, h, _, R, Ext.refl _ _, Keep.refl _, LR.scal (.int _ _), .int t _ _ hu hw⟩
      case string =>
        obtain ⟨s, rfl, rfl, hs⟩ := DataW.trod_string hu ht
        exact fun φ h R => ⟨φ, h, _, R, Ext.refl _ _, Keep.refl _, LR.scal (.str _), .str t _ hu hs⟩
      case slice e =>
        simp only [Bool.and_eq_true, decide_eq_true_eq] at hp
        rcases DataW.trod_slice hu ht with ⟨rfl, rfl⟩ | ⟨a, len, cap, els, rest, m, _, rfl, rfl, _, hlc, hcm, hel, he, hr, _⟩
        · exact fun φ h R => ⟨φ, h, _, R, Ext.refl _ _, Keep.refl _, LR.scal .nils, .nils t e hu⟩
        · obtain ⟨hrl, hr⟩ := hr rfl
          refine imp_slice hu hp.1 hlc hcm (by simp [hel]) (by simp [hrl]) fun i d hd => ?_
          rw [← List.map_append, List.getElem?_map, Option.map_eq_some_iff] at hd
          obtain ⟨y, hy, rfl⟩ := hd
          have key : (W.cells? 0 (a.add (i * P.cellsOf e)) (P.cellsOf e)).bind (DataW.trod enc P W 0 (fun _ => true) true m e) = some y := by
            rcases Nat.lt_or_ge i len with h1 | h1
            · rw [he i h1]
              rw [List.getElem?_append_left (by omega)] at hy
              exact hy
            · have hi : i < els.length + rest.length := by
                have := (List.getElem?_eq_some_iff.1 hy).1; simpa using this
              have := hr (i - len) (by omega)
              rw [show len + (i - len) = i by omega] at this
              rw [this]
              rw [List.getElem?_append_right (by omega), hel] at hy
              exact hy
          rw [Option.bind_eq_some_iff] at key
          obtain ⟨cs', h1, h2⟩ := key
          exact ⟨cs', h1, ih e cs' y m hp.2 h2⟩
      case struct fs =>
        simp only [Bool.and_eq_true] at hp
        obtain ⟨xs, m, _, rfl, hl, hxl, hx⟩ := DataW.trod_struct hu ht
        intro φ h R
        obtain ⟨φ1, h1, cs, R1, E1, K1, _, L1, A1⟩ := imp_fields (P := P) (W := W) hl fs.toList (xs.map (·.1)) 0 hp.1 (by simp [hxl]) (fun i f d g1 g2 => by
          rw [List.getElem?_map, Option.map_eq_some_iff] at g2
          obtain ⟨y, hy, rfl⟩ := g2
          have g1' : fs[i]? = some f := by simpa using g1
          have := hx i f g1'
          rw [hy] at this
          exact ih f.type _ y m (List.all_eq_true.1 hp.2 f (List.mem_of_getElem? g1)) this) φ h R
        rw [List.drop_zero] at L1
        refine ⟨φ1, h1, cs, R1, E1, K1, L1, .struct t fs cs _ hu (by rw [L1.length]; exact hl) (by simp [hxl]) fun i f d g1 g2 => ?_⟩
        have := (A1 i f d (by simpa using g1) g2).2
        rwa [Nat.sub_zero] at this
      case array k e =>
        simp only [Bool.and_eq_true, beq_iff_eq] at hp
        obtain ⟨xs, m, _, rfl, hl, hxl, hx⟩ := DataW.trod_array hu ht
        intro φ h R
        let l : List (List Value × DataW H) := (List.range k).map fun i => ((cs'.drop (i * P.cellsOf e)).take (P.cellsOf e), (xs.map (·.1)).getD i .nil)
        have hlg : ∀ (i : Nat) (d : DataW H), (xs.map (·.1))[i]? = some d → l[i]? = some ((cs'.drop (i * P.cellsOf e)).take (P.cellsOf e), d) := by
          intro i d hd
          have hi : i < k := by rw [← hxl]; have := (List.getElem?_eq_some_iff.1 hd).1; simpa using this
          show ((List.range k).map fun i => ((cs'.drop (i * P.cellsOf e)).take (P.cellsOf e), (xs.map (·.1)).getD i .nil))[i]? = _
          rw [List.getElem?_map, List.getElem?_range hi, Option.map_some, List.getD_eq_getElem?_getD, hd]
          rfl
        have hll : l.length = k := by simp [l]
        have hget : ∀ i, i < k → ∃ y, xs[i]? = some y ∧ (xs.map (·.1))[i]? = some y.1 := fun i hi => ⟨xs[i]'(by omega), List.getElem?_eq_getElem (by omega), by rw [List.getElem?_map, List.getElem?_eq_getElem (by omega)]; rfl⟩
        obtain ⟨φ1, h1, css, R1, E1, K1, hcl, hA⟩ := imp_list (P := P) (W := W) (t := e) l (fun x hx' => by
          obtain ⟨i, hi⟩ := List.getElem?_of_mem hx'
          have hil : i < k := by rw [← hll]; exact (List.getElem?_eq_some_iff.1 hi).1
          obtain ⟨y, hy1, hy2⟩ := hget i hil
          rw [hlg i _ hy2] at hi
          cases hi
          have := hx i hil
          rw [hy1] at this
          exact ih e _ y m hp.2 this) φ h R
        have hpl : ∀ i, i < k → ((cs'.drop (i * P.cellsOf e)).take (P.cellsOf e)).length = P.cellsOf e := by
          intro i hi
          rw [List.length_take, List.length_drop, hl, ← hp.1]
          have : (i + 1) * P.cellsOf e ≤ k * P.cellsOf e := Nat.mul_le_mul_right _ hi
          rw [Nat.add_mul] at this
          omega
        have hzz : ∀ cs ∈ css, cs.length = P.cellsOf e := by
          intro cs hcs
          obtain ⟨i, hi⟩ := List.getElem?_of_mem hcs
          have hil : i < k := by rw [← hll, ← hcl]; exact (List.getElem?_eq_some_iff.1 hi).1
          obtain ⟨y, hy1, hy2⟩ := hget i hil
          obtain ⟨L1, _⟩ := hA i cs _ hi (hlg i _ hy2)
          rw [L1.length]; exact hpl i hil
        have hfl := flatLen css _ hzz
        have hclk : css.length = k := by omega
        have hcsl : css.flatten.length = P.cellsOf t := by rw [hfl, hclk, hp.1]
        refine ⟨φ1, h1, css.flatten, R1, E1, K1, LR.of_get (by omega) fun i v v' g1 g2 => ?_, .arr t e k _ _ hu hcsl (by simp [hxl]) fun i d g => ?_⟩
        · have hi : i < k * P.cellsOf e := by rw [hp.1, ← hcsl]; exact (List.getElem?_eq_some_iff.1 g1).1
          have hz : 0 < P.cellsOf e := by
            rcases Nat.eq_zero_or_pos (P.cellsOf e) with h0 | h0
            · rw [h0, Nat.mul_zero] at hi; omega
            · exact h0
          have hmod := Nat.mod_lt i hz
          have hq : i / P.cellsOf e < k := Nat.div_lt_of_lt_mul (by rw [Nat.mul_comm]; exact hi)
          have hcs : css[i / P.cellsOf e]? = some (css[i / P.cellsOf e]'(by omega)) := List.getElem?_eq_getElem (by omega)
          have hfg := flatGet css _ hzz _ (i % P.cellsOf e) _ hcs hmod
          have hdm := Nat.div_add_mod i (P.cellsOf e)
          rw [show i / P.cellsOf e * P.cellsOf e + i % P.cellsOf e = i by rw [Nat.mul_comm]; exact hdm] at hfg
          rw [hfg] at g1
          obtain ⟨y, hy1, hy2⟩ := hget _ hq
          obtain ⟨L1, _⟩ := hA _ _ _ hcs (hlg _ _ hy2)
          obtain ⟨u, a1, a2⟩ := L1.get _ _ g1
          have a1' : ((cs'.drop (i / P.cellsOf e * P.cellsOf e)).take (P.cellsOf e))[i % P.cellsOf e]? = some u := a1
          rw [drop_take_get hmod, show i / P.cellsOf e * P.cellsOf e + i % P.cellsOf e = i by rw [Nat.mul_comm]; exact hdm, g2] at a1'
          cases a1'
          exact a2
        · have hi : i < k := by rw [← hxl]; have := (List.getElem?_eq_some_iff.1 g).1; simpa using this
          have hcs : css[i]? = some (css[i]'(by omega)) := List.getElem?_eq_getElem (by omega)
          have e1 : ((css.flatten.drop (i * P.cellsOf e)).take (P.cellsOf e)) = css[i]'(by omega) := by
            refine List.ext_getElem? fun j => ?_
            rcases Nat.lt_or_ge j (P.cellsOf e) with hj | hj
            · rw [drop_take_get hj]; exact flatGet css _ hzz i j _ hcs hj
            · rw [List.getElem?_eq_none (by rw [List.length_take]; omega), List.getElem?_eq_none (by rw [hzz _ (List.getElem_mem _)]; omega)]
          rw [e1]
          exact (hA i _ _ hcs (hlg i _ g)).2
end
end Go.Ve
namespace Go.Ve
open Go.RowKit
open Classical
noncomputable section
def AH.newO (h : AH) (o : AO) : AH := ⟨h.nx + 1, h.ob.set h.nx (some o)⟩
theorem AH.newO_get (h : AH) (o : AO) (f : Nat) : (h.newO o).ob.get f = if f = h.nx then some o else h.ob.get f := by
  show (h.ob.set h.nx (some o)).get f = _
  rw [NT.get_set]
theorem AH.ok_newO {h : AH} (H : h.Ok) (o : AO) : (h.newO o).Ok := fun f hf => by
  have : h.nx + 1 ≤ f := hf
  rw [AH.newO_get, if_neg (by omega)]
  exact H f (by omega)
abbrev LO := LoopState → Option Code → AO
section
variable {P : Program} {w0 : World}
section
variable {e : Env} {σ : Sl} {h : AH} {Q : PQ} {a b c : ACode}
end
end
end
end Go.Ve
namespace Go.Ve
open Go.RowKit
noncomputable section
def AH.kill (h : AH) (b : Nat) : AH := ⟨h.nx, h.ob.set b none⟩
theorem AH.kill_get (h : AH) (b f : Nat) : (h.kill b).ob.get f = if f = b then none else h.ob.get f := by
  show (h.ob.set b none).get f = _
  rw [NT.get_set]
theorem AH.ok_kill {h : AH} (H : h.Ok) (b : Nat) : (h.kill b).Ok := fun f hf => by
  rw [AH.kill_get]; split
  · rfl
  · exact H f hf
theorem putK_N (h : AH) (b : Nat) (k : AH → Bool) : putK h b none k = k (h.kill b) := putK_eq h b none k
section
variable {h : AH} {R : Value → AH → Prop}
theorem WP_build {zero l : List Value} {ps : List (Nat × Nat)} {vs : List Value} (hf : ∀ k : List Value → Bool, fillK zero ps vs k = k l) : WP (.build zero ps) vs h R ↔ R (.agg ⟨l⟩) h := WP_eq fun k => hf _
theorem WP_buildSlice {ty : TypeId} {n : Nat} {cells l : List Value} {ps : List (Nat × Nat)} {vs : List Value} (hf : ∀ k : List Value → Bool, fillK cells ps vs k = k l) (ha : allOne l = true) :
    WP (.buildSlice ty n cells ps) vs h R ↔ R (mkS h.nx 0 n n) (h.new ty l) := WP_eq fun k => by
  show fillK cells ps vs (fun l => newCells h ty l fun b h => k (.slice (some ⟨b, 0, none⟩) n n) h) = _
  rw [hf, newCells_eq h ty ha]
theorem repK_eq (n : Nat) (zero : List Value) (k : List Value → Bool) : repK n zero k = k ((List.replicate n zero).flatten) := by
  induction n generalizing k with
  | zero => rfl
  | succ n ih =>
    show repK n zero (fun l => appL zero l k) = _
    rw [ih, appL_eq]; rfl
theorem WP_mkSlice {ty : TypeId} {sz l c : Nat} {zero : List Value} {k1 k2 : IntKind} (hlc : l ≤ c) (hc : c ≤ 65536) (hz : zero.length = sz) (ha : allOne ((List.replicate c zero).flatten) = true) :
    WP (.mkSlice ty sz zero) [.int k1 (l : Int), .int k2 (c : Int)] h R ↔ R (mkS h.nx 0 l c) (h.new ty (List.replicate c zero).flatten) := WP_eq fun k => by
  show iff (Nat.ble l c && Nat.ble c 65536 && lenEq zero sz) (repK c zero fun cs => newCells h ty cs fun b h => k (.slice (some ⟨b, 0, none⟩) l c) h) = _
  have e : (Nat.ble l c && Nat.ble c 65536 && lenEq zero sz) = true := by
    rw [lenEq_eq]; simp only [Bool.and_eq_true, Nat.ble_eq, decide_eq_true_eq]; exact ⟨⟨hlc, hc⟩, hz⟩
  rw [e, iff_T, repK_eq, newCells_eq h ty ha]
theorem src_nil (sz : Nat) (k : Nat → List Value → Bool) {n c : Nat} : srcK h sz (.slice none n c) k = k 0 [] := rfl
theorem src_sl {sz b o n c : Nat} {l : List Value} (hr : h.rds b o l) (hl : l.length = n * sz) (hn : 0 < n * sz) (k : Nat → List Value → Bool) : srcK h sz (mkS b o n c) k = k n l := by
  show (bif Nat.beq n 0 then k 0 [] else readAt h b o (Nat.mul n sz) fun l => k n l) = _
  have h0 : n ≠ 0 := fun e => by rw [e] at hn; omega
  rw [beqF h0]
  exact readAt_eq hr hl hn _
theorem src_zero {sz b o c : Nat} (k : Nat → List Value → Bool) : srcK h sz (mkS b o 0 c) k = k 0 [] := rfl
section
variable {ty : TypeId} {sz n : Nat} {zero xs : List Value} {x : Value}
theorem app_pre (hx : ∀ k : Nat → List Value → Bool, srcK h sz x k = k n xs) (h1 : 1 ≤ sz) (hz : zero.length = sz) (s : Value) (k : KV) :
    (Prim.append ty sz zero).ev [s, x] h k = slK s (appNil h ty sz n xs k) (appSome h ty sz n xs k) := by
  show srcK h sz x (fun n xs => iff (Nat.ble 1 sz && lenEq zero sz) (slK s (appNil h ty sz n xs k) (appSome h ty sz n xs k))) = _
  rw [hx]
  have e : (Nat.ble 1 sz && lenEq zero sz) = true := by rw [lenEq_eq]; simp only [Bool.and_eq_true, Nat.ble_eq, decide_eq_true_eq]; exact ⟨h1, hz⟩
  rw [e, iff_T]
theorem WP_append0 (hx : ∀ k : Nat → List Value → Bool, srcK h sz x k = k 0 xs) (h1 : 1 ≤ sz) (hz : zero.length = sz) {a : Addr} {len cap : Nat} :
    WP (.append ty sz zero) [.slice (some a) len cap, x] h R ↔ R (.slice (some ⟨a.block, a.off, none⟩) len cap) h := WP_eq fun k => by
  rw [app_pre hx h1 hz]; cases a; rfl
theorem WP_append0_nil (hx : ∀ k : Nat → List Value → Bool, srcK h sz x k = k 0 xs) (h1 : 1 ≤ sz) (hz : zero.length = sz) {len cap : Nat} :
    WP (.append ty sz zero) [.slice none len cap, x] h R ↔ R nilS h := WP_eq fun k => by
  rw [app_pre hx h1 hz]; rfl
theorem WP_append_nil (hx : ∀ k : Nat → List Value → Bool, srcK h sz x k = k n xs) (h1 : 1 ≤ sz) (hz : zero.length = sz) (hn : 0 < n) (hb : n ≤ 1048576) (ha : allOne xs = true) {len cap : Nat} :
    WP (.append ty sz zero) [.slice none len cap, x] h R ↔ R (mkS h.nx 0 n (unk + sz)) (h.new ty xs) := WP_eq fun k => by
  rw [app_pre hx h1 hz]
  show (bif Nat.beq n 0 then k (.slice none 0 0) h else iff (Nat.ble n 1048576) (newCells h ty xs fun b h => fN (Nat.add unk sz) fun cp => k (.slice (some ⟨b, 0, none⟩) n cp) h)) = _
  have e : Nat.ble n 1048576 = true := by rw [Nat.ble_eq]; exact hb
  rw [beqF (show n ≠ 0 by omega), e]
  show newCells h ty xs _ = _
  rw [newCells_eq h ty ha, fN_eq]; rfl
def AH.grown (h : AH) (b o : Nat) (ty : TypeId) (c : NT Value) (at_ hi' : Nat) (xs : List Value) : AH := (h.kill b).newO (.cells o hi' ty true (layV c at_ xs))
theorem WP_append_unk (hx : ∀ k : Nat → List Value → Bool, srcK h sz x k = k n xs) (h1 : 1 ≤ sz) (hz : zero.length = sz) (hn : 0 < n) {b o len lo hi : Nat} {c : NT Value} {s : Option Nat} (hb : len + n ≤ 1048576) (ha : allOne xs = true)
    (hg : h.ob.get b = some (.cells lo hi ty true c)) (hlo : lo ≤ o) (hhi : o + len * sz ≤ hi) :
    WP (.append ty sz zero) [.slice (some ⟨b, o, s⟩) len (unk + sz), x] h R ↔ R (mkS h.nx o (len + n) (unk + sz)) (h.grown b o ty c (o + len * sz) (o + (len + n) * sz) xs) := WP_eq fun k => by
  rw [app_pre hx h1 hz]
  show (bif Nat.beq n 0 then k (.slice (some ⟨b, o, none⟩) len (unk + sz)) h else fN (Nat.add len n) fun need => iff (Nat.ble need 1048576) (bif Nat.ble unk (unk + sz) then appUnk h ty sz xs b o len (unk + sz) need k else _)) = _
  have e : Nat.ble (len + n) 1048576 = true := by rw [Nat.ble_eq]; exact hb
  have e2 : Nat.ble unk (unk + sz) = true := by rw [Nat.ble_eq]; omega
  rw [beqF (show n ≠ 0 by omega)]
  simp only [cond_false]
  rw [fN_eq, show Nat.add len n = len + n from rfl, e, iff_T, e2]
  simp only [cond_true]
  unfold appUnk
  have e3 : Nat.beq (unk + sz) (Nat.add unk sz) = true := by rw [Nat.beq_eq]; rfl
  rw [e3, iff_T]
  unfold cellsK
  rw [obK_of hg]
  show iff (true && Nat.beq ty ty && Nat.ble lo o && Nat.ble (Nat.add o (Nat.mul len sz)) hi && allOne xs) _ = _
  have e4 : (true && Nat.beq ty ty && Nat.ble lo o && Nat.ble (Nat.add o (Nat.mul len sz)) hi && allOne xs) = true := by
    simp only [Bool.and_eq_true, Nat.ble_eq, Nat.beq_eq]; exact ⟨⟨⟨⟨trivial, trivial⟩, hlo⟩, hhi⟩, ha⟩
  rw [e4, iff_T, putK_N, fN_eq, layK_eq, fN_eq, newK_eq]
  rfl
theorem WP_append_full (hx : ∀ k : Nat → List Value → Bool, srcK h sz x k = k n xs) (h1 : 1 ≤ sz) (hz : zero.length = sz) (hn : 0 < n) {b o len cap : Nat} {s : Option Nat} {old : List Value} (hb : len + n ≤ 1048576) (hc : cap < len + n) (ha : allOne (old ++ xs) = true)
    (hl : 0 < len) (hr : h.rds b o old) (ho : old.length = len * sz) :
    WP (.append ty sz zero) [.slice (some ⟨b, o, s⟩) len cap, x] h R ↔ R (mkS h.nx 0 (len + n) (unk + sz)) (h.new ty (old ++ xs)) := WP_eq fun k => by
  rw [app_pre hx h1 hz]
  show (bif Nat.beq n 0 then k (.slice (some ⟨b, o, none⟩) len cap) h else fN (Nat.add len n) fun need => iff (Nat.ble need 1048576) (bif Nat.ble unk cap then _ else bif Nat.ble need cap then _ else bif Nat.beq len 0 then _ else readAt h b o (Nat.mul len sz) fun old => appL old xs fun l => newCells h ty l fun b' h => fN (Nat.add unk sz) fun cp => k (.slice (some ⟨b', 0, none⟩) need cp) h)) = _
  have e : Nat.ble (len + n) 1048576 = true := by rw [Nat.ble_eq]; exact hb
  have e2 : Nat.ble unk cap = false := by
    have : ¬ unk ≤ cap := by unfold unk; omega
    cases hh : Nat.ble unk cap with
    | false => rfl
    | true => rw [Nat.ble_eq] at hh; exact absurd hh this
  have e3 : Nat.ble (len + n) cap = false := by
    cases hh : Nat.ble (len + n) cap with
    | false => rfl
    | true => rw [Nat.ble_eq] at hh; omega
  rw [beqF (show n ≠ 0 by omega)]
  simp only [cond_false]
  rw [fN_eq, show Nat.add len n = len + n from rfl, e, iff_T, e2, e3, beqF (show len ≠ 0 by omega)]
  simp only [cond_false]
  have hpos : 0 < len * sz := Nat.mul_pos hl h1
  rw [show Nat.mul len sz = len * sz from rfl, readAt_eq hr ho hpos, appL_eq, newCells_eq h ty ha, fN_eq]
  rfl
end
end
end
end Go.Ve
namespace Go.Ve
open Go.RowKit
open Classical
noncomputable section
def AH.rdL (h : AH) (b : Nat) : Nat → Nat → Option (List Value)
  | _, 0 => some []
  | o, n + 1 => match h.rd b o with
    | none => none
    | some v => match h.rdL b (o + 1) n with
      | none => none
      | some l => some (v :: l)
theorem AH.rdL_rds {h : AH} {b : Nat} : ∀ {n o : Nat} {l : List Value}, h.rdL b o n = some l → l.length = n ∧ h.rds b o l
  | 0, o, l, e => by cases e; exact ⟨rfl, AH.rds_nil h b o⟩
  | n + 1, o, l, e => by
    unfold AH.rdL at e
    split at e
    · cases e
    · rename_i v hv
      split at e
      · cases e
      · rename_i m hm
        cases e
        obtain ⟨h1, h2⟩ := AH.rdL_rds hm
        exact ⟨by simp [h1], AH.rds_cons.2 ⟨hv, h2⟩⟩
theorem AH.rdL_of {h : AH} {b : Nat} : ∀ {l : List Value} {n o : Nat}, l.length = n → h.rds b o l → h.rdL b o n = some l
  | [], n, o, hn, _ => by subst hn; rfl
  | v :: l, n, o, hn, hr => by
    subst hn
    obtain ⟨h1, h2⟩ := AH.rds_cons.1 hr
    show (match h.rd b o with | none => none | some v => match h.rdL b (o + 1) l.length with | none => none | some l => some (v :: l)) = _
    rw [h1, AH.rdL_of rfl h2]
theorem AH.rdL_zero (h : AH) (b o : Nat) : h.rdL b o 0 = some [] := rfl
theorem AH.rdL_succ (h : AH) (b o n : Nat) : h.rdL b o (n + 1) = (h.rd b o).bind fun v => (h.rdL b (o + 1) n).map (v :: ·) := by
  show (match h.rd b o with | none => none | some v => match h.rdL b (o + 1) n with | none => none | some l => some (v :: l)) = _
  cases h.rd b o with
  | none => rfl
  | some v => cases h.rdL b (o + 1) n <;> rfl
theorem AH.can_new_iff (h : AH) (ty : TypeId) (l : List Value) (b o n : Nat) : (h.new ty l).can b o n ↔ (if b = h.nx then o + n ≤ l.length else h.can b o n) := by
  by_cases e : b = h.nx
  · subst e
    rw [if_pos rfl]
    constructor
    · rintro ⟨lo, hi, ty', c, h1, h2, h3⟩
      have h1' : (h.ob.set h.nx (some (.cells 0 l.length ty true (layV .e 0 l)))).get h.nx = some (.cells lo hi ty' true c) := h1
      rw [NT.get_set, if_pos rfl] at h1'
      cases h1'; exact h3
    · exact fun hn => AH.can_new_same h ty l hn
  · rw [if_neg e]
    constructor
    · rintro ⟨lo, hi, ty', c, h1, h2, h3⟩
      have h1' : (h.ob.set h.nx (some (.cells 0 l.length ty true (layV .e 0 l)))).get b = some (.cells lo hi ty' true c) := h1
      rw [NT.get_set, if_neg e] at h1'
      exact ⟨lo, hi, ty', c, h1', h2, h3⟩
    · exact fun H => AH.can_new ty l H e
theorem AH.can_wr_iff (h : AH) (b o : Nat) (l : List Value) (b' o' n' : Nat) : (h.wr b o l).can b' o' n' ↔ h.can b' o' n' := by
  refine ⟨fun H => ?_, AH.can_wr⟩
  by_cases e : b' = b
  · subst e
    obtain ⟨lo, hi, ty, c, h1, h2, h3⟩ := H
    unfold AH.wr at h1
    split at h1
    · rename_i lo' hi' ty' rw' c' heq
      have h1' : (h.ob.set b' (some (.cells lo' hi' ty' rw' (layV c' o l)))).get b' = some (.cells lo hi ty true c) := h1
      rw [NT.get_set, if_pos rfl] at h1'
      cases h1'
      exact ⟨lo, hi, ty, c', heq, h2, h3⟩
    · exact ⟨lo, hi, ty, c, h1, h2, h3⟩
  · obtain ⟨lo, hi, ty, c, h1, h2, h3⟩ := H
    rw [AH.wr_get h e] at h1
    exact ⟨lo, hi, ty, c, h1, h2, h3⟩
theorem AH.rd_wr' {h : AH} {b o : Nat} {l : List Value} (H : h.can b o l.length) (b' o' : Nat) : (h.wr b o l).rd b' o' = if b' = b ∧ o ≤ o' ∧ o' < o + l.length then l[o' - o]? else h.rd b' o' := AH.rd_wr H (Nat.le_refl _) b' o'
section
variable {h : AH} {R : Value → AH → Prop}
theorem WX_load1 {b o : Nat} {s : Option Nat} : WP .load1 [.pointer (some ⟨b, o, s⟩)] h R ↔ ∃ v, h.rd b o = some v ∧ R v h := by
  constructor
  · intro H
    have e : read1 h b o (fun v => decide (R v h)) = true := H (fun v h => decide (R v h)) fun _ _ hr => decide_eq_true hr
    obtain ⟨lo, hi, ty, rw, c, v, h1, h2, h3, h4, h5⟩ := read1_t e
    refine ⟨v, ?_, of_decide_eq_true h5⟩
    unfold AH.rd
    rw [h1]
    show (if lo ≤ o ∧ o + 1 ≤ hi then c.get o else none) = some v
    rw [if_pos ⟨h2, h3⟩, h4]
  · rintro ⟨v, h1, h2⟩; exact (WP_load1 h1).2 h2
theorem WX_loadN {b o n : Nat} {s : Option Nat} (h0 : 0 < n) : WP (.loadN n) [.pointer (some ⟨b, o, s⟩)] h R ↔ ∃ l, h.rdL b o n = some l ∧ R (.agg ⟨l⟩) h := by
  constructor
  · intro H
    have e : readAt h b o n (fun l => decide (R (.agg ⟨l⟩) h)) = true := H (fun v h => decide (R v h)) fun _ _ hr => decide_eq_true hr
    obtain ⟨lo, hi, ty, rw, c, l, h1, h2, h3, h4, h5, h6⟩ := readAt_t e
    refine ⟨l, AH.rdL_of h4 fun i v hv => ?_, of_decide_eq_true h6⟩
    have hi' : i < n := by have := (List.getElem?_eq_some_iff.1 hv).1; omega
    unfold AH.rd
    rw [h1]
    show (if lo ≤ o + i ∧ o + i + 1 ≤ hi then c.get (o + i) else none) = some v
    rw [if_pos ⟨by omega, by omega⟩, h5 i v hv]
  · rintro ⟨l, h1, h2⟩
    obtain ⟨h3, h4⟩ := AH.rdL_rds h1
    exact (WP_loadN h4 h3 h0).2 h2
theorem WX_store {b o n : Nat} {s : Option Nat} {v : Value} : WP (.store n) [.pointer (some ⟨b, o, s⟩), v] h R ↔ (cellsOf v).length = n ∧ allOne (cellsOf v) = true ∧ h.can b o n ∧ R undef (h.wr b o (cellsOf v)) := by
  constructor
  · intro H
    have e : iff (lenEq (cellsOf v) n) (writeAt h b o (cellsOf v) fun h => decide (R undef h)) = true := H (fun v h => decide (R v h)) fun _ _ hr => decide_eq_true hr
    obtain ⟨h1, h2⟩ := iff_t e
    rw [lenEq_eq, decide_eq_true_eq] at h1
    have hc : h.can b o (cellsOf v).length ∧ allOne (cellsOf v) = true := by
      obtain ⟨lo, hi, ty, rw, c, g1, g2⟩ := cellsK_t (show cellsK h b _ = true from h2)
      obtain ⟨g3, g4⟩ := iff_t g2
      simp only [Bool.and_eq_true] at g3
      obtain ⟨⟨⟨r1, r2⟩, r3⟩, r4⟩ := g3
      subst r1
      exact ⟨⟨lo, hi, ty, c, g1, Nat.le_of_ble_eq_true r2, Nat.le_of_ble_eq_true r3⟩, r4⟩
    rw [writeAt_eq hc.1 hc.2] at h2
    exact ⟨h1, hc.2, h1 ▸ hc.1, of_decide_eq_true h2⟩
  · rintro ⟨h1, h2, h3, h4⟩
    exact (WP_store h3 h1 h2).2 h4
theorem WX_extract {l : List Value} {i : Nat} : WP (.extract i) [.tuple ⟨l⟩] h R ↔ ∃ v, l[i]? = some v ∧ R v h := by
  constructor
  · intro H
    have e : nthK l i (fun v => decide (R v h)) = true := H (fun v h => decide (R v h)) fun _ _ hr => decide_eq_true hr
    cases hv : l[i]? with
    | some v => rw [nthK_eq hv] at e; exact ⟨v, rfl, of_decide_eq_true e⟩
    | none =>
      exfalso
      clear H
      induction l generalizing i with
      | nil => cases e
      | cons x l ih => cases i with
        | zero => simp at hv
        | succ i => exact ih (show nthK l i _ = true from e) (by simpa using hv)
  · rintro ⟨v, h1, h2⟩; exact (WP_extract h1).2 h2
theorem WX_field1 {l : List Value} {i : Nat} : WP (.field1 i) [.agg ⟨l⟩] h R ↔ ∃ v, l[i]? = some v ∧ R v h :=
  (show WP (.field1 i) [.agg ⟨l⟩] h R ↔ WP (.extract i) [.tuple ⟨l⟩] h R from Iff.rfl).trans WX_extract
end
theorem oneCell_int (k : IntKind) (n : Int) : oneCell (.int k n) = true := rfl
theorem oneCell_bool (b : Bool) : oneCell (.bool b) = true := rfl
theorem oneCell_str (s : ByteArray) : oneCell (.string s) = true := rfl
theorem oneCell_ptr (a : Option Addr) : oneCell (.pointer a) = true := rfl
theorem oneCell_sl (a : Option Addr) (n c : Nat) : oneCell (.slice a n c) = true := rfl
theorem oneCell_map (a : Option Nat) : oneCell (.map a) = true := rfl
theorem oneCell_fun (f : Fn) (a b : Array Value) : oneCell (.func f a b) = true := rfl
theorem cellsOf_agg (l : List Value) : cellsOf (.agg ⟨l⟩) = l := rfl
theorem cellsOf_int (k : IntKind) (n : Int) : cellsOf (.int k n) = [.int k n] := rfl
theorem cellsOf_bool (b : Bool) : cellsOf (.bool b) = [.bool b] := rfl
theorem cellsOf_str (s : ByteArray) : cellsOf (.string s) = [.string s] := rfl
theorem cellsOf_ptr (a : Option Addr) : cellsOf (.pointer a) = [.pointer a] := rfl
theorem cellsOf_sl (a : Option Addr) (n c : Nat) : cellsOf (.slice a n c) = [.slice a n c] := rfl
theorem cellsOf_map (a : Option Nat) : cellsOf (.map a) = [.map a] := rfl
theorem cellsOf_fun (f : Fn) (a b : Array Value) : cellsOf (.func f a b) = [.func f a b] := rfl
theorem cellsOf_one {v : Value} (h : oneCell v = true) : cellsOf v = [v] := by
  cases v <;> first | rfl | cases h
theorem allOne_nil : allOne [] = true := rfl
theorem allOne_cons (v : Value) (l : List Value) : allOne (v :: l) = (oneCell v && allOne l) := by
  show (bif oneCell v then allOne l else false) = _
  cases oneCell v <;> rfl
def splL (l : List Value) (o : Nat) (m : List Value) : List Value := l.take o ++ m ++ l.drop (o + m.length)
def fillL : List Value → List (Nat × Nat) → List Value → Option (List Value)
  | l, [], [] => some l
  | l, (o, n) :: ps, v :: vs => if (cellsOf v).length = n ∧ o + n ≤ l.length then fillL (splL l o (cellsOf v)) ps vs else none
  | _, _, _ => none
theorem overK_eq : ∀ {l m : List Value} (_ : m.length ≤ l.length) (k : List Value → Bool), overK l m k = k (m ++ l.drop m.length)
  | [], [], _, k => rfl
  | [], v :: m, h, k => by simp at h
  | x :: l, [], h, k => rfl
  | x :: l, v :: m, h, k => by
    show overK l m (fun l' => k (v :: l')) = _
    rw [overK_eq (by simpa using h)]; simp
theorem spliceK_eq : ∀ {l : List Value} {o : Nat} {m : List Value} (_ : o + m.length ≤ l.length) (k : List Value → Bool), spliceK l o m k = k (splL l o m)
  | [], 0, [], h, k => rfl
  | [], 0, v :: m, h, k => by simp at h
  | [], o + 1, m, h, k => by simp at h
  | x :: l, 0, m, h, k => by
    show overK (x :: l) m k = _
    rw [overK_eq (by omega)]; unfold splL; rw [List.take_zero, List.nil_append, Nat.zero_add]
  | x :: l, o + 1, m, h, k => by
    show spliceK l o m (fun l' => k (x :: l')) = _
    rw [spliceK_eq (by simp at h; omega)]
    unfold splL
    rw [show o + 1 + m.length = (o + m.length) + 1 by omega]
    rfl
theorem fillL_eq : ∀ {ps : List (Nat × Nat)} {l vs m : List Value} (_ : fillL l ps vs = some m) (k : List Value → Bool), fillK l ps vs k = k m
  | [], l, [], m, e, k => by cases e; rfl
  | [], l, v :: vs, m, e, k => by cases e
  | (o, n) :: ps, l, [], m, e, k => by cases e
  | (o, n) :: ps, l, v :: vs, m, e, k => by
    unfold fillL at e
    split at e
    · rename_i hc
      show (bif lenEq (cellsOf v) n then spliceK l o (cellsOf v) fun l' => fillK l' ps vs k else false) = _
      rw [lenEq_eq, decide_eq_true hc.1]
      simp only [cond_true]
      rw [spliceK_eq (by rw [hc.1]; exact hc.2), fillL_eq e]
    · cases e
def sizL : List Nat → List Value → Bool
  | [], [] => true
  | n :: ns, v :: vs => decide ((cellsOf v).length = n) && sizL ns vs
  | _, _ => false
theorem sizL_eq : ∀ {ss : List Nat} {vs : List Value}, sizL ss vs = true → ss = vs.map fun v => (cellsOf v).length
  | [], [], _ => rfl
  | n :: ns, v :: vs, e => by
    unfold sizL at e
    rw [Bool.and_eq_true, decide_eq_true_eq] at e
    rw [List.map_cons, sizL_eq e.2, e.1]
  | [], _ :: _, e => by cases e
  | _ :: _, [], e => by cases e
section
variable {h : AH} {R : Value → AH → Prop}
theorem WX_buildAll {ss : List Nat} {vs : List Value} (hs : sizL ss vs = true) : WP (.buildAll ss) vs h R ↔ R (.agg ⟨vs.flatMap cellsOf⟩) h := WP_buildAll (sizL_eq hs)
theorem WX_build {zero l : List Value} {ps : List (Nat × Nat)} {vs : List Value} (hf : fillL zero ps vs = some l) : WP (.build zero ps) vs h R ↔ R (.agg ⟨l⟩) h := WP_build (fillL_eq hf)
theorem WX_buildSlice {ty : TypeId} {n : Nat} {cells l : List Value} {ps : List (Nat × Nat)} {vs : List Value} (hf : fillL cells ps vs = some l) (ha : allOne l = true) : WP (.buildSlice ty n cells ps) vs h R ↔ R (mkS h.nx 0 n n) (h.new ty l) := WP_buildSlice (fillL_eq hf) ha
end
theorem overK_fit : ∀ {l m : List Value} {k : List Value → Bool}, overK l m k = true → m.length ≤ l.length
  | [], [], k, _ => Nat.le_refl _
  | [], v :: m, k, h => by cases h
  | x :: l, [], k, _ => Nat.zero_le _
  | x :: l, v :: m, k, h => by
    have := overK_fit (show overK l m (fun l' => k (v :: l')) = true from h)
    simpa using this
theorem spliceK_fit : ∀ {l : List Value} {o : Nat} {m : List Value} {k : List Value → Bool}, spliceK l o m k = true → o + m.length ≤ l.length
  | [], 0, m, k, h => by have := overK_fit (show overK [] m k = true from h); simpa using this
  | [], o + 1, m, k, h => by cases h
  | x :: l, 0, m, k, h => by have := overK_fit (show overK (x :: l) m k = true from h); omega
  | x :: l, o + 1, m, k, h => by
    have := spliceK_fit (show spliceK l o m (fun l' => k (x :: l')) = true from h)
    simp only [List.length_cons]; omega
theorem fillL_t : ∀ {ps : List (Nat × Nat)} {l vs : List Value} {k : List Value → Bool}, fillK l ps vs k = true → ∃ m, fillL l ps vs = some m ∧ k m = true
  | [], l, [], k, h => ⟨l, rfl, h⟩
  | [], l, v :: vs, k, h => by cases h
  | (o, n) :: ps, l, [], k, h => by cases h
  | (o, n) :: ps, l, v :: vs, k, h => by
    have h' : (bif lenEq (cellsOf v) n then spliceK l o (cellsOf v) fun l' => fillK l' ps vs k else false) = true := h
    cases hl : lenEq (cellsOf v) n with
    | false => rw [hl] at h'; cases h'
    | true =>
      rw [hl] at h'
      have h2 : spliceK l o (cellsOf v) (fun l' => fillK l' ps vs k) = true := h'
      rw [lenEq_eq, decide_eq_true_eq] at hl
      have h3 := spliceK_fit h2
      rw [spliceK_eq h3] at h2
      obtain ⟨m, h4, h5⟩ := fillL_t h2
      refine ⟨m, ?_, h5⟩
      unfold fillL
      rw [if_pos ⟨hl, by rw [← hl]; exact h3⟩]; exact h4
section
variable {h : AH} {R : Value → AH → Prop}
theorem WY_build {zero : List Value} {ps : List (Nat × Nat)} {vs : List Value} : WP (.build zero ps) vs h R ↔ ∃ l, fillL zero ps vs = some l ∧ R (.agg ⟨l⟩) h := by
  constructor
  · intro H
    obtain ⟨m, h1, h2⟩ := fillL_t (show fillK zero ps vs (fun l => decide (R (.agg ⟨l⟩) h)) = true from H (fun v h => decide (R v h)) fun _ _ hr => decide_eq_true hr)
    exact ⟨m, h1, of_decide_eq_true h2⟩
  · rintro ⟨l, h1, h2⟩; exact (WX_build h1).2 h2
end
theorem Keep.new' {a h : AH} (H : Keep a h) (ty : TypeId) (l : List Value) : Keep a (h.new ty l) := H.trans (Keep.new h ty l)
theorem flat_at {sz : Nat} : ∀ {l : List (List Value)} {i : Nat} {x : List Value}, (∀ x ∈ l, x.length = sz) → l[i]? = some x → ∀ j v, x[j]? = some v → l.flatten[i * sz + j]? = some v
  | [], i, x, _, e, j, v, hv => by simp at e
  | y :: l, 0, x, hs, e, j, v, hv => by
    simp at e; subst e
    have : j < y.length := (List.getElem?_eq_some_iff.1 hv).1
    simp [List.getElem?_append_left this, hv]
  | y :: l, i + 1, x, hs, e, j, v, hv => by
    have h1 := hs y List.mem_cons_self
    have := flat_at (fun x hx => hs x (List.mem_cons_of_mem _ hx)) (show l[i]? = some x by simpa using e) j v hv
    rw [List.flatten_cons, List.getElem?_append_right (by rw [h1, Nat.add_mul]; omega), h1]
    rw [show (i + 1) * sz + j - sz = i * sz + j by rw [Nat.add_mul]; omega]
    exact this
end
end Go.Ve
