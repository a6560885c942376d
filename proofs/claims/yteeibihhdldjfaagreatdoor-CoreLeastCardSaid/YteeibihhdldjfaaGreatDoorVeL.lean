/- Part 12: VEval, part 52: for whatever can be read as plain data there is an abstract heap that stands for it. Condition: the types are plain. And what follows it. -/
import Derived.Test.YteeibihhdldjfaaGreatDoorVeK
import Derived.DataReads
set_option linter.unusedVariables false
set_option linter.unusedSimpArgs false
namespace Go.Ve
open Go.ChangeShapes Go.WideShapes Go.ChangeAt Go.RowKit
section
variable {H : Type} {enc : TypeId × Value → H} {P : Program}
def BG (P : Program) : Nat → List Field → Nat → Bool
 | o, [], n => o == n
 | o, f :: fs, n => f.offset == o && BG P (o + P.cellsOf f.type) fs n
def tw (P : Program) : Nat → TypeId → Bool
 | 0, _ => false
 | n + 1, t => match P.underlying t with
  | some .bool => true
  | some (.int _) => true
  | some .string => true
  | some (.slice e) => decide (0 < P.cellsOf e) && tw P n e
  | some (.struct fs) => BG P 0 fs.toList (P.cellsOf t) && fs.toList.all fun f => tw P n f.type
  | some (.array k e) => (k * P.cellsOf e == P.cellsOf t) && tw P n e
  | _ => false
def yE (P : Program) (W : World) (t : TypeId) (cf : List Value) (d : DataW H) : Prop :=
 ∀ (φ : aE) (h : AH), HR P W φ h W → ∃ φ' h' cs, HR P W φ' h' W ∧ Ext h.nx φ φ' ∧ cU h h' ∧ LR φ' cs cf ∧ AD P h' t cs d
theorem X6 {W : World} {t : TypeId} : ∀ (l : List (List Value × DataW H)), (∀ x ∈ l, yE P W t x.1 x.2) → ∀ (φ : aE) (h : AH), HR P W φ h W →
 ∃ (φ' : aE) (h' : AH) (cD : List (List Value)), HR P W φ' h' W ∧ Ext h.nx φ φ' ∧ cU h h' ∧ cD.length = l.length ∧ ∀ (i : Nat) (cs : List Value) (x : List Value × DataW H), cD[i]? = some cs → l[i]? = some x → LR φ' cs x.1 ∧ AD P h' t cs x.2 := by
 intro l
 induction l with
 | nil => intro _ φ h R; exact ⟨φ, h, [], R, Ext.refl _ _, cU.refl _, rfl, fun i cs x h1 => by simp at h1⟩
 | cons x l ih =>
  intro fj φ h R
  obtain ⟨φ1, h1, cs, R1, E1, K1, L1, A1⟩ := fj x List.mem_cons_self φ h R
  obtain ⟨φ2, h2, cD, R2, E2, K2, hl, hA⟩ := ih (fun y hy => fj y (List.mem_cons_of_mem _ hy)) φ1 h1 R1
  refine ⟨φ2, h2, cs :: cD, R2, E1.trans E2 K1.nx, K1.trans K2, by simp [hl], fun i c y g1 g2 => ?_⟩
  cases i with
  | zero =>
   simp at g1 g2
   subst g1; subst g2
   exact ⟨LR.ext E2 L1, A1.ch K2 R1.top⟩
  | succ i => exact hA i c y (by simpa using g1) (by simpa using g2)
theorem GY {α : Type} : ∀ (cD : List (List α)) (z : Nat), (∀ cs ∈ cD, cs.length = z) → ∀ (i j : Nat) (cs : List α), cD[i]? = some cs → j < z → cD.flatten[i * z + j]? = cs[j]?
 | [], z, _, i, j, cs, h, _ => by simp at h
 | c :: cD, z, hz, 0, j, cs, h, hj => by
  simp at h; subst h
  have : c.length = z := hz c List.mem_cons_self
  rw [List.flatten_cons, Nat.zero_mul, Nat.zero_add, List.getElem?_append_left (by omega)]
 | c :: cD, z, hz, i + 1, j, cs, h, hj => by
  have hc : c.length = z := hz c List.mem_cons_self
  rw [List.flatten_cons, List.getElem?_append_right (by rw [hc, Nat.add_mul]; omega)]
  have := GY cD z (fun x hx => hz x (List.mem_cons_of_mem _ hx)) i j cs (by simpa using h) hj
  rw [← this]
  congr 1
  rw [hc, Nat.add_mul]; omega
theorem Po {α : Type} : ∀ (cD : List (List α)) (z : Nat), (∀ cs ∈ cD, cs.length = z) → cD.flatten.length = cD.length * z
 | [], z, _ => by simp
 | c :: cD, z, hz => by
  rw [List.flatten_cons, List.length_append, Po cD z (fun x hx => hz x (List.mem_cons_of_mem _ hx)), hz c List.mem_cons_self, List.length_cons, Nat.add_mul]; omega
theorem agC {W : World} {cf : List Value} {n : Nat} (dY : cf.length = n) : ∀ (fs : List Field) (ds : List (DataW H)) (o : Nat), BG P o fs n = true → ds.length = fs.length →
    (∀ (i : Nat) (f : Field) (d : DataW H), fs[i]? = some f → ds[i]? = some d → yE P W f.type ((cf.drop f.offset).take (P.cellsOf f.type)) d) → ∀ (φ : aE) (h : AH), HR P W φ h W →
    ∃ φ' h' cs, HR P W φ' h' W ∧ Ext h.nx φ φ' ∧ cU h h' ∧ o ≤ n ∧ LR φ' cs (cf.drop o) ∧ ∀ (i : Nat) (f : Field) (d : DataW H), fs[i]? = some f → ds[i]? = some d → o ≤ f.offset ∧ AD P h' f.type ((cs.drop (f.offset - o)).take (P.cellsOf f.type)) d := by
  intro fs
  induction fs with
  | nil =>
    intro ds o ht hl _ φ h R
    simp only [BG, beq_iff_eq] at ht
    exact ⟨φ, h, [], R, Ext.refl _ _, cU.refl _, by omega, by rw [List.drop_eq_nil_of_le (by omega)]; exact .nil, fun i f d h1 => by simp at h1⟩
  | cons f fs ih =>
    intro ds o ht hl fj φ h R
    simp only [BG, Bool.and_eq_true, beq_iff_eq] at ht
    obtain ⟨ho, ht⟩ := ht
    cases ds with
    | nil => simp at hl
    | cons d ds =>
      obtain ⟨φ1, h1, c1, R1, E1, K1, L1, A1⟩ := fj 0 f d rfl rfl φ h R
      obtain ⟨φ2, h2, c2, R2, E2, K2, hon, L2, A2⟩ := ih ds (o + P.cellsOf f.type) ht (by simpa using hl) (fun i f' d' g1 g2 => fj (i + 1) f' d' (by simpa using g1) (by simpa using g2)) φ1 h1 R1
      rw [ho] at L1
      have hlen : c1.length = P.cellsOf f.type := by
        rw [L1.length, List.length_take, List.length_drop]; omega
      refine ⟨φ2, h2, c1 ++ c2, R2, E1.trans E2 K1.nx, K1.trans K2, by omega, ?_, fun i f' d' g1 g2 => ?_⟩
      · have : cf.drop o = (cf.drop o).take (P.cellsOf f.type) ++ cf.drop (o + P.cellsOf f.type) := by
          rw [← List.drop_drop, List.take_append_drop]
        rw [this]
        exact LR.append L2 (LR.ext E2 L1)
      · cases i with
        | zero =>
          simp at g1 g2
          subst g1; subst g2
          refine ⟨by omega, ?_⟩
          rw [ho, Nat.sub_self, List.drop_zero, List.take_append_of_le_length (by omega), List.take_of_length_le (by omega)]
          exact A1.ch K2 R1.top
        | succ i =>
          obtain ⟨a1, a2⟩ := A2 i f' d' (by simpa using g1) (by simpa using g2)
          refine ⟨by omega, ?_⟩
          rw [List.drop_append, List.drop_eq_nil_of_le (by omega), List.nil_append]
          rw [show f'.offset - o - c1.length = f'.offset - (o + P.cellsOf f.type) by omega]
          exact a2
theorem agD {W : World} {t e : TypeId} {a : Addr} {len cap : Nat} {fY rest : List (DataW H)} (hu : P.underlying t = some (.slice e)) (hz : 0 < P.cellsOf e) (hlen : len ≤ cap) (gN : cap ≤ maxLen) (hn : fY.length = len) (hr : rest.length = cap - len)
 (BH : ∀ (i : Nat) (d : DataW H), (fY ++ rest)[i]? = some d → ∃ cf, W.cells? 0 (a.add (i * P.cellsOf e)) (P.cellsOf e) = some cf ∧ yE P W e cf d) : yE P W t [.slice (some a) len cap] (.slice fY rest) := by
 intro φ h R
 have agE : cap < aU := Nat.lt_of_le_of_lt gN (by decide)
 rcases Nat.eq_zero_or_pos cap with h0 | h0
 · -- no cell at all
   obtain ⟨R1, E1, K1⟩ := R.agB
   have he : fY = [] := List.eq_nil_of_length_eq_zero (by omega)
   have qS : rest = [] := List.eq_nil_of_length_eq_zero (by omega)
   subst he; subst qS
   have jz : len = 0 := by omega
   subst jz; subst h0
   refine ⟨_, _, [.slice (some ⟨h.nx, 0, none⟩) 0 0], R1, E1, K1, .cons _ _ _ _ (.sl _ _ _ _ _ (by simp [aE.put]) (.inl ⟨by decide, rfl, Nat.le_refl _, fun hh => absurd hh (Nat.lt_irrefl 0)⟩)) .nil, ?_⟩
   exact .sl t e h.nx 0 0 0 [] [] [] hu rfl (Nat.le_refl _) (Nat.zero_le _) rfl (fun cs dY => by cases dY) (AH.Oa _ _ _) (fun i cs d h1 => by simp at h1)
 · have fj : (fY ++ rest).length = cap := by rw [List.length_append]; omega
   obtain ⟨d0, pO⟩ : ∃ d, (fY ++ rest)[0]? = some d := ⟨(fY ++ rest)[0]'(by omega), List.getElem?_eq_getElem (by omega)⟩
   obtain ⟨c0, vh, _⟩ := BH 0 d0 pO
   obtain ⟨_, anu, agF⟩ := World.cells?_some vh
   have mO := agF 0 hz
   rw [show (a.add (0 * P.cellsOf e)).add 0 = a by rw [Nat.zero_mul]; rfl] at mO
   have agG : c0[0]? = some (c0[0]'(by omega)) := List.getElem?_eq_getElem (by omega)
   rw [agG] at mO
   obtain ⟨arr, ty, fr, hw, GZ⟩ : ∃ arr ty fr, W.heap[a.block]? = some (.cells arr ty fr) ∧ a.spot = none := by
    unfold World.cell? at mO
    split at mO
    · rename_i arr ty fr hh
      refine ⟨arr, ty, fr, hh, ?_⟩
      split at mO
      · cases mO
      · rename_i hs; simpa using hs
    · cases mO
   have agH : ∀ (j : Nat), W.cell? (a.add j) = arr[a.off + j]? := by
    intro j
    rw [lv a GZ]
    unfold World.cell?
    simp only [hw]; rfl
   have Pp : ∀ (i : Nat) (d : DataW H), fY[i]? = some d → ∃ cf, W.cells? 0 (a.add (i * P.cellsOf e)) (P.cellsOf e) = some cf ∧ yE P W e cf d := fun i d hd => BH i d (by rw [List.getElem?_append_left (List.getElem?_eq_some_iff.1 hd).1]; exact hd)
   let l : List (List Value × DataW H) := (List.range len).map fun i => ((W.cells? 0 (a.add (i * P.cellsOf e)) (P.cellsOf e)).getD [], fY.getD i .nil)
   have ke : l.length = len := by simp [l]
   have nN : ∀ (i : Nat) (d : DataW H), fY[i]? = some d → l[i]? = some ((W.cells? 0 (a.add (i * P.cellsOf e)) (P.cellsOf e)).getD [], d) := by
    intro i d hd
    have hi : i < len := by rw [← hn]; exact (List.getElem?_eq_some_iff.1 hd).1
    simp [l, hi, List.getD, hd]
   obtain ⟨φ1, h1, cD, R1, E1, K1, jy, hA⟩ := X6 (P := P) (W := W) (t := e) l (fun x hx => by
    obtain ⟨i, hi⟩ := List.getElem?_of_mem hx
    have tx : i < len := by rw [← ke]; exact (List.getElem?_eq_some_iff.1 hi).1
    have hd : fY[i]? = some (fY[i]'(by omega)) := List.getElem?_eq_getElem (by omega)
    obtain ⟨cf, g1, g2⟩ := Pp i _ hd
    rw [nN i _ hd] at hi
    cases hi
    rw [g1]
    exact g2) φ h R
   have pF : ∀ cs ∈ cD, cs.length = P.cellsOf e := by
    intro cs dY
    obtain ⟨i, hi⟩ := List.getElem?_of_mem dY
    have tx : i < len := by rw [← ke, ← jy]; exact (List.getElem?_eq_some_iff.1 hi).1
    have hd : fY[i]? = some (fY[i]'(by omega)) := List.getElem?_eq_getElem (by omega)
    obtain ⟨cf, g1, _⟩ := Pp i _ hd
    obtain ⟨L1, _⟩ := hA i cs _ hi (nN i _ hd)
    rw [g1] at L1
    rw [L1.length]
    exact (World.cells?_some g1).2.1
   have tf : a.block < W.heap.size := (Array.getElem?_eq_some_iff.1 hw).1
   obtain ⟨h2, R2, E2, K2, nE, iM⟩ := R1.look (o := a.off) (l := cD.flatten) hw tf (fun i v hv => by
    have Pq := Po cD _ pF
    have hi : i < cD.length * P.cellsOf e := by rw [← Pq]; exact (List.getElem?_eq_some_iff.1 hv).1
    have G0 := Nat.div_add_mod i (P.cellsOf e)
    have BI := Nat.mod_lt i hz
    have hq : i / P.cellsOf e < cD.length := Nat.div_lt_of_lt_mul (by rw [Nat.mul_comm]; exact hi)
    have dY : cD[i / P.cellsOf e]? = some (cD[i / P.cellsOf e]) := List.getElem?_eq_getElem hq
    have BJ := GY cD _ pF _ (i % P.cellsOf e) _ dY BI
    rw [show i / P.cellsOf e * P.cellsOf e + i % P.cellsOf e = i by rw [Nat.mul_comm]; exact G0] at BJ
    rw [BJ] at hv
    have tx : i / P.cellsOf e < len := by omega
    have hd : fY[i / P.cellsOf e]? = some (fY[i / P.cellsOf e]'(by omega)) := List.getElem?_eq_getElem (by omega)
    obtain ⟨cf, g1, _⟩ := Pp _ _ hd
    obtain ⟨L1, _⟩ := hA _ _ _ dY (nN _ _ hd)
    rw [g1] at L1
    obtain ⟨v', a1, a2⟩ := L1.get _ _ hv
    obtain ⟨_, b1, b2⟩ := World.cells?_some g1
    have b3 := b2 (i % P.cellsOf e) BI
    have G1 : cf[i % P.cellsOf e]? = some v' := a1
    rw [G1] at b3
    refine ⟨v', ?_, a2⟩
    have e1 : (a.add (i / P.cellsOf e * P.cellsOf e)).add (i % P.cellsOf e) = a.add i := by
     rw [lv a GZ, lv _ rfl, lv a GZ]
     simp only [Addr.mk.injEq, true_and, and_true]
     rw [Nat.mul_comm]; omega
    rw [e1, agH] at b3
    exact b3)
   refine ⟨_, h2, [.slice (some ⟨h1.nx, a.off, none⟩) len cap], R2, E1.trans E2 K1.nx, K1.trans K2, .cons _ _ _ _ (.sl _ _ _ _ _ (by simp [aE.put]) (.inl ⟨agE, rfl, hlen, fun _ => ?_⟩)) .nil, ?_⟩
   · intro b d n hl
     have fP : (φ1.put h1.nx (.live a.block 0 arr.size)) h1.nx = some (.live b d n) := hl
     rw [aE.gP] at fP
     cases fP
     exact ⟨rfl, rfl, GZ⟩
   · exact .sl t e h1.nx a.off len cap fY rest cD hu hn hlen gN (by omega) pF nE (fun i cs d g1 g2 => ((hA i cs _ g1 (nN i d g2)).2).ch K2 R1.top)
theorem LR.G2 {φ : aE} {v : Value} (h : VR φ v v) : LR φ [v] [v] := .cons _ _ _ _ h .nil
theorem X7 {α : Type} {l : List α} {o n j : Nat} (hj : j < n) : ((l.drop o).take n)[j]? = l[o + j]? := by
 rw [List.getElem?_take, if_pos hj, List.getElem?_drop]
theorem agI {W : World} : ∀ (n : Nat) (t : TypeId) (cf : List Value) (x : DataW H × List MemPlace) (fuel : Nat), tw P n t = true → DataW.trod enc P W 0 (fun _ => true) true fuel t cf = some x → yE P W t cf x.1 := by
  intro n
  induction n with
  | zero => intro t cf x fuel hp; cases hp
  | succ n ih =>
    intro t cf x fuel hp ht
    rw [tw] at hp
    cases hu : P.underlying t with
    | none => rw [hu] at hp; cases hp
    | some ty =>
      rw [hu] at hp
      cases ty <;> first | (exact Bool.noConfusion hp) | skip
      case bool =>
        obtain ⟨b, rfl, rfl⟩ := DataW.trod_bool hu ht
        exact fun φ h R => ⟨φ, h, _, R, Ext.refl _ _, cU.refl _, LR.G2 (.bool _), .bool t _ hu⟩
      case int k =>
        obtain ⟨m, rfl, rfl, hw⟩ := DataW.trod_int hu ht
        exact fun φ h R => ⟨φ, h, _, R, Ext.refl _ _, cU.refl _, LR.G2 (.int _ _), .int t _ _ hu hw⟩
      case string =>
        obtain ⟨s, rfl, rfl, hs⟩ := DataW.trod_string hu ht
        exact fun φ h R => ⟨φ, h, _, R, Ext.refl _ _, cU.refl _, LR.G2 (.str _), .str t _ hu hs⟩
      case slice e =>
        simp only [Bool.and_eq_true, decide_eq_true_eq] at hp
        rcases DataW.trod_slice hu ht with ⟨rfl, rfl⟩ | ⟨a, len, cap, fY, rest, m, _, rfl, rfl, _, GI, NG, BH, he, hr, _⟩
        · exact fun φ h R => ⟨φ, h, _, R, Ext.refl _ _, cU.refl _, LR.G2 .lO, .lO t e hu⟩
        · obtain ⟨hrl, hr⟩ := hr rfl
          refine agD hu hp.1 GI NG (by simp [BH]) (by simp [hrl]) fun i d hd => ?_
          rw [← List.map_append, List.getElem?_map, Option.map_eq_some_iff] at hd
          obtain ⟨y, hy, rfl⟩ := hd
          have key : (W.cells? 0 (a.add (i * P.cellsOf e)) (P.cellsOf e)).bind (DataW.trod enc P W 0 (fun _ => true) true m e) = some y := by
            rcases Nat.lt_or_ge i len with h1 | h1
            · rw [he i h1]
              rw [List.getElem?_append_left (by omega)] at hy
              exact hy
            · have hi : i < fY.length + rest.length := by
                have := (List.getElem?_eq_some_iff.1 hy).1; simpa using this
              have := hr (i - len) (by omega)
              rw [show len + (i - len) = i by omega] at this
              rw [this]
              rw [List.getElem?_append_right (by omega), BH] at hy
              exact hy
          rw [Option.bind_eq_some_iff] at key
          obtain ⟨cf, h1, h2⟩ := key
          exact ⟨cf, h1, ih e cf y m hp.2 h2⟩
      case struct fs =>
        simp only [Bool.and_eq_true] at hp
        obtain ⟨xs, m, _, rfl, hl, mQ, hx⟩ := DataW.trod_struct hu ht
        intro φ h R
        obtain ⟨φ1, h1, cs, R1, E1, K1, _, L1, A1⟩ := agC (P := P) (W := W) hl fs.toList (xs.map (·.1)) 0 hp.1 (by simp [mQ]) (fun i f d g1 g2 => by
          rw [List.getElem?_map, Option.map_eq_some_iff] at g2
          obtain ⟨y, hy, rfl⟩ := g2
          have g1' : fs[i]? = some f := by simpa using g1
          have := hx i f g1'
          rw [hy] at this
          exact ih f.type _ y m (List.all_eq_true.1 hp.2 f (List.mem_of_getElem? g1)) this) φ h R
        rw [List.drop_zero] at L1
        refine ⟨φ1, h1, cs, R1, E1, K1, L1, .struct t fs cs _ hu (by rw [L1.length]; exact hl) (by simp [mQ]) fun i f d g1 g2 => ?_⟩
        have := (A1 i f d (by simpa using g1) g2).2
        rwa [Nat.sub_zero] at this
      case array k e =>
        simp only [Bool.and_eq_true, beq_iff_eq] at hp
        obtain ⟨xs, m, _, rfl, hl, mQ, hx⟩ := DataW.trod_array hu ht
        intro φ h R
        let l : List (List Value × DataW H) := (List.range k).map fun i => ((cf.drop (i * P.cellsOf e)).take (P.cellsOf e), (xs.map (·.1)).getD i .nil)
        have nN : ∀ (i : Nat) (d : DataW H), (xs.map (·.1))[i]? = some d → l[i]? = some ((cf.drop (i * P.cellsOf e)).take (P.cellsOf e), d) := by
          intro i d hd
          have hi : i < k := by rw [← mQ]; have := (List.getElem?_eq_some_iff.1 hd).1; simpa using this
          show ((List.range k).map fun i => ((cf.drop (i * P.cellsOf e)).take (P.cellsOf e), (xs.map (·.1)).getD i .nil))[i]? = _
          rw [List.getElem?_map, List.getElem?_range hi, Option.map_some, List.getD_eq_getElem?_getD, hd]
          rfl
        have ke : l.length = k := by simp [l]
        have Ps : ∀ i, i < k → ∃ y, xs[i]? = some y ∧ (xs.map (·.1))[i]? = some y.1 := fun i hi => ⟨xs[i]'(by omega), List.getElem?_eq_getElem (by omega), by rw [List.getElem?_map, List.getElem?_eq_getElem (by omega)]; rfl⟩
        obtain ⟨φ1, h1, cD, R1, E1, K1, jy, hA⟩ := X6 (P := P) (W := W) (t := e) l (fun x fb => by
          obtain ⟨i, hi⟩ := List.getElem?_of_mem fb
          have tx : i < k := by rw [← ke]; exact (List.getElem?_eq_some_iff.1 hi).1
          obtain ⟨y, Pt, BK⟩ := Ps i tx
          rw [nN i _ BK] at hi
          cases hi
          have := hx i tx
          rw [Pt] at this
          exact ih e _ y m hp.2 this) φ h R
        have mH : ∀ i, i < k → ((cf.drop (i * P.cellsOf e)).take (P.cellsOf e)).length = P.cellsOf e := by
          intro i hi
          rw [List.length_take, List.length_drop, hl, ← hp.1]
          have : (i + 1) * P.cellsOf e ≤ k * P.cellsOf e := Nat.mul_le_mul_right _ hi
          rw [Nat.add_mul] at this
          omega
        have pF : ∀ cs ∈ cD, cs.length = P.cellsOf e := by
          intro cs dY
          obtain ⟨i, hi⟩ := List.getElem?_of_mem dY
          have tx : i < k := by rw [← ke, ← jy]; exact (List.getElem?_eq_some_iff.1 hi).1
          obtain ⟨y, Pt, BK⟩ := Ps i tx
          obtain ⟨L1, _⟩ := hA i cs _ hi (nN i _ BK)
          rw [L1.length]; exact mH i tx
        have Pq := Po cD _ pF
        have agJ : cD.length = k := by omega
        have X8 : cD.flatten.length = P.cellsOf t := by rw [Pq, agJ, hp.1]
        refine ⟨φ1, h1, cD.flatten, R1, E1, K1, LR.LJ (by omega) fun i v v' g1 g2 => ?_, .arr t e k _ _ hu X8 (by simp [mQ]) fun i d g => ?_⟩
        · have hi : i < k * P.cellsOf e := by rw [hp.1, ← X8]; exact (List.getElem?_eq_some_iff.1 g1).1
          have hz : 0 < P.cellsOf e := by
            rcases Nat.eq_zero_or_pos (P.cellsOf e) with h0 | h0
            · rw [h0, Nat.mul_zero] at hi; omega
            · exact h0
          have BI := Nat.mod_lt i hz
          have hq : i / P.cellsOf e < k := Nat.div_lt_of_lt_mul (by rw [Nat.mul_comm]; exact hi)
          have dY : cD[i / P.cellsOf e]? = some (cD[i / P.cellsOf e]'(by omega)) := List.getElem?_eq_getElem (by omega)
          have BJ := GY cD _ pF _ (i % P.cellsOf e) _ dY BI
          have G0 := Nat.div_add_mod i (P.cellsOf e)
          rw [show i / P.cellsOf e * P.cellsOf e + i % P.cellsOf e = i by rw [Nat.mul_comm]; exact G0] at BJ
          rw [BJ] at g1
          obtain ⟨y, Pt, BK⟩ := Ps _ hq
          obtain ⟨L1, _⟩ := hA _ _ _ dY (nN _ _ BK)
          obtain ⟨u, a1, a2⟩ := L1.get _ _ g1
          have G1 : ((cf.drop (i / P.cellsOf e * P.cellsOf e)).take (P.cellsOf e))[i % P.cellsOf e]? = some u := a1
          rw [X7 BI, show i / P.cellsOf e * P.cellsOf e + i % P.cellsOf e = i by rw [Nat.mul_comm]; exact G0, g2] at G1
          cases G1
          exact a2
        · have hi : i < k := by rw [← mQ]; have := (List.getElem?_eq_some_iff.1 g).1; simpa using this
          have dY : cD[i]? = some (cD[i]'(by omega)) := List.getElem?_eq_getElem (by omega)
          have e1 : ((cD.flatten.drop (i * P.cellsOf e)).take (P.cellsOf e)) = cD[i]'(by omega) := by
            refine List.ext_getElem? fun j => ?_
            rcases Nat.lt_or_ge j (P.cellsOf e) with hj | hj
            · rw [X7 hj]; exact GY cD _ pF i j _ dY hj
            · rw [List.getElem?_eq_none (by rw [List.length_take]; omega), List.getElem?_eq_none (by rw [pF _ (List.getElem_mem _)]; omega)]
          rw [e1]
          exact (hA i _ _ dY (nN i _ g)).2
end
end Go.Ve
namespace Go.Ve
open Go.RowKit
open Classical
noncomputable section
def AH.ly (h : AH) (b : Nat) (o : AO) : AH := ⟨h.nx, h.ob.set b (some o)⟩
def AH.dR (h : AH) (o : AO) : AH := ⟨h.nx + 1, h.ob.set h.nx (some o)⟩
theorem AH.rz (h : AH) (b : Nat) (o : AO) (f : Nat) : (h.ly b o).ob.get f = if f = b then some o else h.ob.get f := by
 show (h.ob.set b (some o)).get f = _
 rw [NT.c7]
theorem AH.pZ (h : AH) (o : AO) (f : Nat) : (h.dR o).ob.get f = if f = h.nx then some o else h.ob.get f := by
 show (h.ob.set h.nx (some o)).get f = _
 rw [NT.c7]
theorem AH.yu {h : AH} (H : h.Ok) (o : AO) : (h.dR o).Ok := fun f hf => by
 have : h.nx + 1 ≤ f := hf
 rw [AH.pZ, if_neg (by omega)]
 exact H f (by omega)
theorem AH.GD {h : AH} (H : h.Ok) {b : Nat} (hb : b < h.nx) (o : AO) : (h.ly b o).Ok := fun f hf => by
 have : h.nx ≤ f := hf
 rw [AH.rz, if_neg (by omega)]
 exact H f this
theorem cU.dR (h : AH) (o : AO) : cU h (h.dR o) := ⟨Nat.le_succ _, fun f hf => by rw [AH.pZ, if_neg (by omega)]⟩
abbrev LO := LoopState → Option Code → AO
def isL (lo : LO) : Prop := ∃ fn tm ps a b d nt, ∀ st pd, lo st pd = .loop ⟨st, pd, fn, tm, ps, a, b, d, nt⟩
def jo : List Nat → W → W
 | [], K => K
 | r :: rs, K => fun h => h.ob.get r = some (.defs false) ∧ jo rs K (h.ly r (.defs true))
def gA (rs : List Nat) : DS := ⟨rs.map .od, .off⟩
def mz : Value → W := fun _ _ => False
def xl : List (Nat × W) → Nat → W
 | [], _ => fun _ => False
 | (j, A) :: l, id => bif Nat.beq id j then A else xl l id
def sk (pd : Option Code) (N Rt : W) (X : List (Nat × W)) : W := match pd with
 | none => N
 | some .ret => Rt
 | some (.exit id) => xl X id
 | _ => fun _ => False
def qw (lo : LO) (l : Nat) (K : W) : W := fun h => (∃ st pd, h.ob.get l = some (lo st pd)) ∧ K h
def my (lo : LO) (l : Nat) (K : W) : W := fun h => ∃ pd, h.ob.get l = some (lo .ready pd) ∧ K (h.ly l (lo .busy pd))
def jq (lo : LO) (l : Nat) (st : LoopState) (pd : Option Code) (b : Bool) (R : Value → W) : W := fun h => (∃ s p, h.ob.get l = some (lo s p)) ∧ R (.bool b) (h.ly l (lo st pd))
def yq (R : Value → W) : CR → AH → Prop := fun r h => match r with
 | .ret v => R v h
 | .aN _ => False
def OE (P : Program) (w0 : World) (g : FuncId) (first bD : List Value) (B : LO → Nat → List Value → (Value → W) → W) (E : Value → W) (K : Option Code → W) : W := fun h =>
 ∀ lo : LO, (∀ (l : Nat) (vs : List Value) (R : Value → W) (h : AH), B lo l vs R h → WR P w0 l vs h (yq R)) →
  WF P w0 g (first ++ .func (.yield h.nx) ⟨[]⟩ ⟨[]⟩ :: bD) (h.dR (lo .ready none)) fun r h' => match r with
   | .ret _ => ∃ st pd, h'.ob.get h.nx = some (lo st pd) ∧ Nq st = true ∧ K pd (h'.ly h.nx (lo .exhausted pd))
   | .aN v => E v h'
def xm (P : Program) (w0 : World) (fv : Value) (B : LO → Nat → List Value → (Value → W) → W) (E : Nat → Value → W) (K : Nat → Option Code → W) : W := match fv with
 | .func (.func g) ⟨first⟩ ⟨bD⟩ => fun h => OE P w0 g first bD B (E h.nx) (K h.nx) (h.dR (.defs false))
 | _ => fun _ => False
def zL (F : Value → Value → W) : List Value → W
 | [a, b] => F a b
 | _ => fun _ => False
def GF (σ : Sl) : List Pos → List Value → Sl
 | [], _ => σ
 | _, [] => σ
 | p :: ps, v :: vs => GF (σ.up p v) ps vs
section
variable {P : Program} {w0 : World}
theorem Bw (h : AH) (o : AO) (k : Nat → AH → Bool) : kL h o k = k h.nx (h.dR o) := Of h o k
theorem yw (h : AH) (b : Nat) (o : AO) (k : AH → Bool) : fM h b (some o) k = k (h.ly b o) := Oe h b (some o) k
theorem GG {h : AH} {b : Nat} {r : j8} (hr : h.ob.get b = some (.loop r)) (k : j8 → Bool) : mJ h b k = k r := by
 unfold mJ; rw [tl hr]
theorem af5 {h : AH} {b : Nat} {t : Bool} (hr : h.ob.get b = some (.defs t)) (k : Bool → Bool) : x8 h b k = k t := by
 unfold x8; rw [tl hr]
theorem af6 (g : FuncId) (first bD : List Value) (kf : Nat → List Value → List Value → Bool) (ky : Nat → Bool) : sL (.func (.func g) ⟨first⟩ ⟨bD⟩) kf ky = kf g first bD := rfl
theorem Xy : ∀ {ps : List Pos} {vs : List Value} {t : PT} {k : PT → Bool}, ps.length = vs.length → (∀ t' : PT, t'.get = GF t.get ps vs → k t' = true) → x9 ps vs t k = true
 | [], [], t, k, _, hk => hk t rfl
 | p :: ps, v :: vs, t, k, hl, hk => by
  show PT.fW p t v (fun t => x9 ps vs t k) = true
  rw [PT.lb]
  refine Xy (by simpa using hl) fun t' sR => hk t' ?_
  rw [sR, Sl.Xm]; rfl
def OF (lo : LO) (l : Nat) (R : Value → W) : PQ := fun x _ d h => d.df = [] ∧ (match x with
 | .normal => jq lo l .ready none true R h
 | .ret => jq lo l .done (some .ret) false R h
 | .exit id => jq lo l .done (some (.exit id)) false R h
 | .aN _ => False)
def OG (P : Program) (w0 : World) (lo : LO) (l : Nat) (b : cN) (e : Env) (R : Value → W) : PQ := fun x σ d h => match x with
 | .normal => my lo l (fun h => dG P w0 b e σ d h (OF lo l R)) h
 | _ => False
theorem af7 (bA : P.follows .mixedOrders = true) {fn : FuncId} {nt : Nat} {tm : PT} {ps : List Pos} {a b : cN} {OH : Nat} {lo : LO} (oz : ∀ st pd, lo st pd = .loop ⟨st, pd, fn, tm, ps, a, b, OH, nt⟩) {l : Nat} {vs : List Value} {h : AH} {R : Value → W}
 (hl : ∃ st pd, h.ob.get l = some (lo st pd)) (hlen : ps.length = vs.length) (H : dG P w0 a ⟨fn, nt, some l⟩ (GF tm.get ps vs) ⟨[], .off⟩ h (OG P w0 lo l b ⟨fn, nt, some l⟩ R)) : WR P w0 l vs h (yq R) := by
 obtain ⟨st, pd, hl⟩ := hl
 rw [oz] at hl
 show qP P w0 l vs h (fun r h => decide (yq R r h))
 refine Vc (rec := eS P w0) (Bt P w0) ?_
 show mJ h l (fun r => x9 r.params vs r.tm fun tm => eS P w0 (.code r.assign ⟨r.fn, r.nt, some l⟩ ⟨tm, [], .off, h⟩ (ML (eS P w0) l r _))) = true
 rw [GG hl]
 refine Xy hlen fun t' sR => ?_
 refine kQ P w0 (c8.vM (fun x s hx => ?_) (Gk bA a H t' sR))
 have fb := of_decide_eq_true hx
 cases x with
 | normal =>
  obtain ⟨tq, h1, h2⟩ : my lo l (fun h => dG P w0 b ⟨fn, nt, some l⟩ s.tm.get ⟨s.df, s.rc⟩ h (OF lo l R)) s.h := fb
  rw [oz] at h1
  show mJ s.h l (fun r => iff (isReady r.state) (fM s.h l (some (.loop (r.iK .busy r.dm))) fun h => eS P w0 (.code b ⟨fn, nt, some l⟩ ⟨s.tm, s.df, s.rc, h⟩ (FA l _)))) = true
  rw [GG h1]
  show iff true (fM s.h l (some (.loop ⟨.busy, tq, fn, tm, ps, a, b, OH, nt⟩)) fun h => eS P w0 (.code b ⟨fn, nt, some l⟩ ⟨s.tm, s.df, s.rc, h⟩ (FA l fun r h => decide (yq R r h)))) = true
  rw [fe, yw, ← oz]
  refine kQ P w0 (c8.vM (fun x s hx => ?_) (Gk bA b h2 s.tm rfl))
  obtain ⟨hd, fb⟩ := of_decide_eq_true hx
  have F9 : s.df = [] := hd
  show sQ s.df _ = true
  rw [F9]
  have fin : ∀ (j : Option Code) (st : LoopState) (b' : Bool), jq lo l st j b' R s.h → AP l s.h (fun r h => decide (yq R r h)) j st b' = true := fun j st b' hf => by
   obtain ⟨⟨s1, p1, h3⟩, h4⟩ := hf
   rw [oz] at h3
   show mJ s.h l _ = true
   rw [GG h3]
   show fM s.h l (some (.loop ⟨st, j, fn, tm, ps, a, b, OH, nt⟩)) _ = true
   rw [yw, ← oz]
   exact decide_eq_true h4
  cases x with
  | normal => exact fin _ _ _ fb
  | ret => exact fin _ _ _ fb
  | exit id => exact fin _ _ _ fb
  | aN v => exact fb.elim
 | exit id => exact False.elim fb
 | ret => exact False.elim fb
 | aN v => exact False.elim fb
def OI (Q : PQ) (σ : Sl) (d : DS) (pd : Option Code) (h : AH) : Prop := match pd with
 | none => Q .normal σ d h
 | some .ret => Q .ret σ d h
 | some (.exit id) => Q (.exit id) σ d h
 | _ => False
theorem af8 {e : Env} {tm : PT} {df : List eB} {rc : Rc} {ps : List Pos} {a b : cN} {g : FuncId} {first bD : List Value} {h : AH} {dl : Nat} {B : LO → Nat → List Value → (Value → W) → W} {E : Value → W} {K : Option Code → W} {Q : PQ} {s : St} (iz : s.tm = tm) (jR : s.rc = rc)
 (H : OE P w0 g first bD B E K h) (hB : ∀ lo : LO, (∀ st pd, lo st pd = .loop ⟨st, pd, e.fn, tm, ps, a, b, dl, e.nt⟩) → ∀ (l : Nat) (vs : List Value) (R : Value → W) (h : AH), B lo l vs R h → WR P w0 l vs h (yq R))
 (hE : ∀ v h, E v h → Q (.aN v) tm.get ⟨df, rc⟩ h) (hK : ∀ pd h, K pd h → OI Q tm.get ⟨df, rc⟩ pd h) : AA (eS P w0) e s (fun x s => decide (Q x s.tm.get ⟨s.df, s.rc⟩ s.h)) ps a b g first bD h dl df = true := by
 show kL h (.loop ⟨.ready, none, e.fn, s.tm, ps, a, b, dl, e.nt⟩) (fun l h => gO first (.func (.yield l) ⟨[]⟩ ⟨[]⟩ :: bD) fun args => eS P w0 (.call g args h (Mn s df _ l))) = true
 rw [Bw, ti, iz]
 refine kQ P w0 (gn.mono (fun r h' hr => ?_) (H (fun st pd => .loop ⟨st, pd, e.fn, tm, ps, a, b, dl, e.nt⟩) (hB _ fun _ _ => rfl)))
 have oi := of_decide_eq_true hr
 cases r with
 | ret v =>
  obtain ⟨st, pd, h1, h2, h3⟩ := oi
  show mJ h' h.nx _ = true
  rw [GG h1]
  show iff (Nq st) (fM h' h.nx (some (.loop ⟨.exhausted, pd, e.fn, tm, ps, a, b, dl, e.nt⟩)) _) = true
  rw [h2, fe, yw]
  have := hK pd _ h3
  unfold OI at this
  unfold Fh
  rw [iz, jR]
  split at this
  · exact decide_eq_true this
  · exact decide_eq_true this
  · exact decide_eq_true this
  · exact this.elim
 | aN v =>
  show decide (Q (.aN v) s.tm.get ⟨df, s.rc⟩ h') = true
  rw [iz, jR]
  exact decide_eq_true (hE v h' oi)
theorem af9 {Q : PQ} {σ : Sl} {d : DS} {N Rt : W} {X : List (Nat × W)} (hN : ∀ h, N h → Q .normal σ d h) (hR : ∀ h, Rt h → Q .ret σ d h) (hX : ∀ p ∈ X, ∀ h, p.2 h → Q (.exit p.1) σ d h) (pd : Option Code) (h : AH) (H : sk pd N Rt X h) : OI Q σ d pd h := by
 unfold sk at H
 split at H
 · exact hN _ H
 · exact hR _ H
 · rename_i id
   show Q (.exit id) σ d h
   induction X with
   | nil => exact H.elim
   | cons p X ih =>
    obtain ⟨j, A⟩ := p
    have H' : (bif Nat.beq id j then A else xl X id) h := H
    cases hj : Nat.beq id j with
    | true =>
     rw [hj] at H'
     have := Nat.eq_of_beq_eq_true hj
     subst this
     exact hX _ List.mem_cons_self _ H'
    | false =>
     rw [hj] at H'
     exact ih (fun p hp => hX p (List.mem_cons_of_mem _ hp)) H'
 · exact H.elim
def OJ (Q : PQ) (σ : Sl) (d : DS) : List (Nat × W) → Prop
 | [] => True
 | (j, A) :: l => (∀ h, A h → Q (.exit j) σ d h) ∧ OJ Q σ d l
theorem Xz {Q : PQ} {σ : Sl} {d : DS} : ∀ {X : List (Nat × W)}, OJ Q σ d X → ∀ p ∈ X, ∀ h, p.2 h → Q (.exit p.1) σ d h
 | [], _, p, hp => by cases hp
 | (j, A) :: l, ⟨h1, h2⟩, p, hp => by
  rcases List.mem_cons.1 hp with rfl | hp
  · exact h1
  · exact Xz h2 p hp
theorem Jw (bA : P.follows .mixedOrders = true) {fn : FuncId} {nt : Nat} {f : dL} {ps : List Pos} {a b : cN} {σ : Sl} {rs : List Nat} {h : AH} {Q : PQ} {fv : Value} (B : LO → Nat → List Value → (Value → W) → W) (E : Nat → Value → W) (N Rt : Nat → W) (X : Nat → List (Nat × W))
 (hf : eg σ f = fv) (H : xm P w0 fv B E (fun r pd => sk pd (N r) (Rt r) (X r)) h) (hE : ∀ r v h, E r v h → Q (.aN v) σ (gA (r :: rs)) h)
 (hN : ∀ r h, N r h → Q .normal σ (gA (r :: rs)) h) (hR : ∀ r h, Rt r h → Q .ret σ (gA (r :: rs)) h) (hX : ∀ r, OJ Q σ (gA (r :: rs)) (X r))
 (hB : ∀ (lo : LO) (_ : isL lo) (l : Nat) (vs : List Value) (R : Value → W) (h : AH), B lo l vs R h → (∃ st pd, h.ob.get l = some (lo st pd)) ∧ ps.length = vs.length ∧ dG P w0 a ⟨fn, nt, some l⟩ (GF σ ps vs) ⟨[], .off⟩ h (OG P w0 lo l b ⟨fn, nt, some l⟩ R)) :
 dG P w0 (.mC f ps a b) ⟨fn, nt, none⟩ σ (gA rs) h Q := by
 intro tm dN
 subst dN
 refine pY bA ?_
 show qT f tm (fun fv => sL fv (fun g first bD => kL h (.defs false) fun r h => AA (eS P w0) ⟨fn, nt, none⟩ ⟨tm, rs.map .od, .off, _⟩ _ ps a b g first bD h r (.od r :: rs.map .od)) lX) = true
 rw [NA, N5, hf]
 unfold xm at H
 split at H
 · rename_i g first bD
   rw [af6, Bw]
   refine af8 rfl rfl H (fun lo oz l vs R h hb => ?_) (fun v h hv => hE _ v h hv) (fun pd h hk => af9 (hN _) (hR _) (Xz (hX _)) pd h hk)
   obtain ⟨h1, h2, h3⟩ := hB lo ⟨_, _, _, _, _, _, _, oz⟩ l vs R h hb
   exact af7 bA oz h1 h2 h3
 · exact H.elim
theorem Jy {lo : LO} {l : Nat} {K : W} {h : AH} (H : qw lo l K h) : (∃ st pd, h.ob.get l = some (lo st pd)) ∧ K h := H
theorem aga {lo : LO} {l : Nat} {K K' : W} {h : AH} (H : my lo l K h) (hk : ∀ h, K h → K' h) : my lo l K' h := by
 obtain ⟨pd, h1, h2⟩ := H
 exact ⟨pd, h1, hk _ h2⟩
theorem Jz {lo : LO} {l : Nat} {K : W} {b : cN} {e : Env} {R : Value → W} {σ : Sl} {d : DS} {h : AH} (H : my lo l K h) (hk : ∀ h, K h → dG P w0 b e σ d h (OF lo l R)) : OG P w0 lo l b e R .normal σ d h := aga H hk
theorem Jx {F : Value → Value → W} {vs : List Value} {h : AH} (H : zL F vs h) : ∃ a b, vs = [a, b] ∧ F a b h := by
 unfold zL at H; split at H
 · exact ⟨_, _, rfl, H⟩
 · exact H.elim
theorem OK {K : Option Value → AH → Prop} {m : Option Value} : ∀ {rs : List Nat} {h : AH}, jo rs (K m) h → WL P w0 (rs.map .od) m h K
 | [], h, H => H
 | r :: rs, h, H => by
  obtain ⟨h1, h2⟩ : h.ob.get r = some (.defs false) ∧ jo rs (K m) (h.ly r (.defs true)) := H
  have ih := OK (rs := rs) h2
  refine Mw (rec := eS P w0) (Bt P w0) ?_
  show x8 h r (fun t => iff (!t) (fM h r (some (.defs true)) fun h => eS P w0 (.leave (rs.map .od) m h _))) = true
  rw [af5 h1]
  rw [Bool.not_false, fe, yw]
  exact N8 (fun m h hm => decide_eq_true hm) ih
theorem zM {Q : PQ} {σ : Sl} {d : DS} {h : AH} (res : List kE) (R : CR → AH → Prop) (rs : List Nat) (hQ : Q .ret σ d h = Bu P w0 res R .ret σ (gA rs) h) (H : jo rs (fun h => lx res σ h fun vs => R (.ret (vN vs)) h) h) : Q .ret σ d h := by
 rw [hQ]
 exact OK (m := none) (K := fun m h => match m with | none => lx res σ h fun vs => R (.ret (vN vs)) h | some v => R (.aN v) h) H
theorem qx {Q : PQ} {σ : Sl} {d : DS} {h : AH} {v : Value} (res : List kE) (R : CR → AH → Prop) (rs : List Nat) (hQ : Q (.aN v) σ d h = Bu P w0 res R (.aN v) σ (gA rs) h) (H : jo rs (fun h => R (.aN v) h) h) : Q (.aN v) σ d h := by
 rw [hQ]
 exact OK (m := some v) (K := fun m h => match m with | none => res = [] ∧ R (.ret (.tuple ⟨[]⟩)) h | some v => R (.aN v) h) H
def cE (rs : List Nat) (E : Value → W) : Value → W := fun v => jo rs (E v)
section
variable {e : Env} {σ : Sl} {h : AH} {Q : PQ} {a b c : cN}
theorem sn {α : Type} (U : List (Pos × Value)) (M : α → List (Pos × Value)) (π : Sl → α) (J : α → List Nat → W) {rs : List Nat} (hM : ∀ σ, l6 σ (M (π σ))) (hb : ∀ (x : α) (rs : List Nat) (σ : Sl) (h : AH), J x rs h → dG P w0 b e ((σ.oy U).oy (M x)) (gA rs) h Q)
 (ha : dG P w0 a e σ (gA rs) h (th (fun σ d' h => ∃ rA, d' = gA rA ∧ l6 σ U ∧ J (π σ) rA h) Q)) : dG P w0 (.seq a b) e σ (gA rs) h Q := by
 refine Gm a (fun x σ d' h hx => ?_) ha
 cases x with
 | normal =>
  obtain ⟨rA, rfl, h2, h3⟩ := hx
  have := hb (π σ) rA σ h h3
  rwa [ry h2, ry (hM σ)] at this
 | _ => exact hx
theorem To (bA : P.follows .mixedOrders = true) {α : Type} (U : List (Pos × Value)) (M : α → List (Pos × Value)) (π : Sl → α) (F : (α × List Nat → W) → α × List Nat → W) (hM : ∀ σ, l6 σ (M (π σ)))
 (hF : ∀ (k : α × List Nat → W) (x : α) (rs : List Nat) (σ : Sl) (h : AH), F k (x, rs) h → dG P w0 c e ((σ.oy U).oy (M x)) (gA rs) h (th (fun σ d' h => ∃ rA, d' = gA rA ∧ l6 σ U ∧ k (π σ, rA) h) Q)) {x : α} {rs : List Nat} (hx : π σ = x) (hU : l6 σ U) (H : LP F (x, rs) h) : dG P w0 (.loop c) e σ (gA rs) h Q := by
 subst hx
 obtain ⟨n, H⟩ := H
 have key : ∀ n rs σ h, l6 σ U → eE F n (π σ, rs) h → WC P w0 (.loop c) e σ (gA rs) h Q := by
  intro n
  induction n with
  | zero => intro rs σ h _ H; exact H.elim
  | succ n ih =>
   intro rs σ h hU H
   refine N7 bA ?_
   have h1 := hF (eE F n) (π σ) rs σ h H
   rw [ry hU, ry (hM σ)] at h1
   refine Gm c (fun x σ d' h hx => ?_) h1
   cases x with
   | normal =>
    obtain ⟨rA, rfl, h2, h3⟩ := hx
    exact ih rA σ h h2 h3
   | _ => exact hx
 exact key n rs σ h hU H
end
end
end
end Go.Ve
namespace Go.Ve
open Go.RowKit
noncomputable section
def AH.kill (h : AH) (b : Nat) : AH := ⟨h.nx, h.ob.set b none⟩
theorem AH.GH (h : AH) (b f : Nat) : (h.kill b).ob.get f = if f = b then none else h.ob.get f := by
 show (h.ob.set b none).get f = _
 rw [NT.c7]
theorem AH.XA {h : AH} (H : h.Ok) (b : Nat) : (h.kill b).Ok := fun f hf => by
 rw [AH.GH]; split
 · rfl
 · exact H f hf
theorem XB (h : AH) (b : Nat) (k : AH → Bool) : fM h b none k = k (h.kill b) := Oe h b none k
section
variable {h : AH} {R : Value → AH → Prop}
theorem agb {zero l : List Value} {ps : List (Nat × Nat)} {vs : List Value} (hf : ∀ k : List Value → Bool, iL zero ps vs k = k l) : WP (.build zero ps) vs h R ↔ R (.agg ⟨l⟩) h := cP fun k => hf _
theorem agc {ty : TypeId} {n : Nat} {cells l : List Value} {ps : List (Nat × Nat)} {vs : List Value} (hf : ∀ k : List Value → Bool, iL cells ps vs k = k l) (ha : cO l = true) :
 WP (.buildSlice ty n cells ps) vs h R ↔ R (eT h.nx 0 n n) (h.new ty l) := cP fun k => by
 show iL cells ps vs (fun l => jT h ty l fun b h => k (.slice (some ⟨b, 0, none⟩) n n) h) = _
 rw [hf, vQ h ty ha]
theorem agd (n : Nat) (zero : List Value) (k : List Value → Bool) : xD n zero k = k ((List.replicate n zero).flatten) := by
 induction n generalizing k with
 | zero => rfl
 | succ n ih =>
  show xD n zero (fun l => gO zero l k) = _
  rw [ih, ti]; rfl
theorem age {ty : TypeId} {sz l c : Nat} {zero : List Value} {k1 k2 : IntKind} (GI : l ≤ c) (hc : c ≤ 65536) (hz : zero.length = sz) (ha : cO ((List.replicate c zero).flatten) = true) :
 WP (.mkSlice ty sz zero) [.int k1 (l : Int), .int k2 (c : Int)] h R ↔ R (eT h.nx 0 l c) (h.new ty (List.replicate c zero).flatten) := cP fun k => by
 show iff (Nat.ble l c && Nat.ble c 65536 && hY zero sz) (xD c zero fun cs => jT h ty cs fun b h => k (.slice (some ⟨b, 0, none⟩) l c) h) = _
 have e : (Nat.ble l c && Nat.ble c 65536 && hY zero sz) = true := by
  rw [tp]; simp only [Bool.and_eq_true, Nat.ble_eq, decide_eq_true_eq]; exact ⟨⟨GI, hc⟩, hz⟩
 rw [e, fe, agd, vQ h ty ha]
theorem agf (sz : Nat) (k : Nat → List Value → Bool) {n c : Nat} : kN h sz (.slice none n c) k = k 0 [] := rfl
theorem agh {sz b o n c : Nat} {l : List Value} (hr : h.aZ b o l) (hl : l.length = n * sz) (hn : 0 < n * sz) (k : Nat → List Value → Bool) : kN h sz (eT b o n c) k = k n l := by
 show (bif Nat.beq n 0 then k 0 [] else kI h b o (Nat.mul n sz) fun l => k n l) = _
 have h0 : n ≠ 0 := fun e => by rw [e] at hn; omega
 rw [eO h0]
 exact Og hr hl hn _
theorem agi {sz b o c : Nat} (k : Nat → List Value → Bool) : kN h sz (eT b o 0 c) k = k 0 [] := rfl
section
variable {ty : TypeId} {sz n : Nat} {zero xs : List Value} {x : Value}
theorem vR (hx : ∀ k : Nat → List Value → Bool, kN h sz x k = k n xs) (h1 : 1 ≤ sz) (hz : zero.length = sz) (s : Value) (k : KV) :
 (Prim.append ty sz zero).ev [s, x] h k = jV s (ya h ty sz n xs k) (yb h ty sz n xs k) := by
 show kN h sz x (fun n xs => iff (Nat.ble 1 sz && hY zero sz) (jV s (ya h ty sz n xs k) (yb h ty sz n xs k))) = _
 rw [hx]
 have e : (Nat.ble 1 sz && hY zero sz) = true := by rw [tp]; simp only [Bool.and_eq_true, Nat.ble_eq, decide_eq_true_eq]; exact ⟨h1, hz⟩
 rw [e, fe]
theorem XC (hx : ∀ k : Nat → List Value → Bool, kN h sz x k = k 0 xs) (h1 : 1 ≤ sz) (hz : zero.length = sz) {a : Addr} {len cap : Nat} :
 WP (.append ty sz zero) [.slice (some a) len cap, x] h R ↔ R (.slice (some ⟨a.block, a.off, none⟩) len cap) h := cP fun k => by
 rw [vR hx h1 hz]; cases a; rfl
theorem agj (hx : ∀ k : Nat → List Value → Bool, kN h sz x k = k 0 xs) (h1 : 1 ≤ sz) (hz : zero.length = sz) {len cap : Nat} :
 WP (.append ty sz zero) [.slice none len cap, x] h R ↔ R cZ h := cP fun k => by
 rw [vR hx h1 hz]; rfl
theorem agk (hx : ∀ k : Nat → List Value → Bool, kN h sz x k = k n xs) (h1 : 1 ≤ sz) (hz : zero.length = sz) (hn : 0 < n) (hb : n ≤ 1048576) (ha : cO xs = true) {len cap : Nat} :
 WP (.append ty sz zero) [.slice none len cap, x] h R ↔ R (eT h.nx 0 n (aU + sz)) (h.new ty xs) := cP fun k => by
 rw [vR hx h1 hz]
 show (bif Nat.beq n 0 then k (.slice none 0 0) h else iff (Nat.ble n 1048576) (jT h ty xs fun b h => fN (Nat.add aU sz) fun cp => k (.slice (some ⟨b, 0, none⟩) n cp) h)) = _
 have e : Nat.ble n 1048576 = true := by rw [Nat.ble_eq]; exact hb
 rw [eO (show n ≠ 0 by omega), e]
 show jT h ty xs _ = _
 rw [vQ h ty ha, bT]; rfl
def AH.grown (h : AH) (b o : Nat) (ty : TypeId) (c : NT Value) (at_ cz : Nat) (xs : List Value) : AH := (h.kill b).dR (.cells o cz ty true (iR c at_ xs))
theorem agl (hx : ∀ k : Nat → List Value → Bool, kN h sz x k = k n xs) (h1 : 1 ≤ sz) (hz : zero.length = sz) (hn : 0 < n) {b o len lo hi : Nat} {c : NT Value} {s : Option Nat} (hb : len + n ≤ 1048576) (ha : cO xs = true)
 (hg : h.ob.get b = some (.cells lo hi ty true c)) (oz : lo ≤ o) (OL : o + len * sz ≤ hi) :
 WP (.append ty sz zero) [.slice (some ⟨b, o, s⟩) len (aU + sz), x] h R ↔ R (eT h.nx o (len + n) (aU + sz)) (h.grown b o ty c (o + len * sz) (o + (len + n) * sz) xs) := cP fun k => by
 rw [vR hx h1 hz]
 show (bif Nat.beq n 0 then k (.slice (some ⟨b, o, none⟩) len (aU + sz)) h else fN (Nat.add len n) fun gS => iff (Nat.ble gS 1048576) (bif Nat.ble aU (aU + sz) then FC h ty sz xs b o len (aU + sz) gS k else _)) = _
 have e : Nat.ble (len + n) 1048576 = true := by rw [Nat.ble_eq]; exact hb
 have e2 : Nat.ble aU (aU + sz) = true := by rw [Nat.ble_eq]; omega
 rw [eO (show n ≠ 0 by omega)]
 simp only [cond_false]
 rw [bT, show Nat.add len n = len + n from rfl, e, fe, e2]
 simp only [cond_true]
 unfold FC
 have e3 : Nat.beq (aU + sz) (Nat.add aU sz) = true := by rw [Nat.beq_eq]; rfl
 rw [e3, fe]
 unfold kM
 rw [tl hg]
 show iff (true && Nat.beq ty ty && Nat.ble lo o && Nat.ble (Nat.add o (Nat.mul len sz)) hi && cO xs) _ = _
 have e4 : (true && Nat.beq ty ty && Nat.ble lo o && Nat.ble (Nat.add o (Nat.mul len sz)) hi && cO xs) = true := by
  simp only [Bool.and_eq_true, Nat.ble_eq, Nat.beq_eq]; exact ⟨⟨⟨⟨trivial, trivial⟩, oz⟩, OL⟩, ha⟩
 rw [e4, fe, XB, bT, Gr, bT, Of]
 rfl
theorem agm (hx : ∀ k : Nat → List Value → Bool, kN h sz x k = k n xs) (h1 : 1 ≤ sz) (hz : zero.length = sz) (hn : 0 < n) {b o len cap : Nat} {s : Option Nat} {old : List Value} (hb : len + n ≤ 1048576) (hc : cap < len + n) (ha : cO (old ++ xs) = true)
 (hl : 0 < len) (hr : h.aZ b o old) (ho : old.length = len * sz) :
 WP (.append ty sz zero) [.slice (some ⟨b, o, s⟩) len cap, x] h R ↔ R (eT h.nx 0 (len + n) (aU + sz)) (h.new ty (old ++ xs)) := cP fun k => by
 rw [vR hx h1 hz]
 show (bif Nat.beq n 0 then k (.slice (some ⟨b, o, none⟩) len cap) h else fN (Nat.add len n) fun gS => iff (Nat.ble gS 1048576) (bif Nat.ble aU cap then _ else bif Nat.ble gS cap then _ else bif Nat.beq len 0 then _ else kI h b o (Nat.mul len sz) fun old => gO old xs fun l => jT h ty l fun b' h => fN (Nat.add aU sz) fun cp => k (.slice (some ⟨b', 0, none⟩) gS cp) h)) = _
 have e : Nat.ble (len + n) 1048576 = true := by rw [Nat.ble_eq]; exact hb
 have e2 : Nat.ble aU cap = false := by
  have : ¬ aU ≤ cap := by unfold aU; omega
  cases hh : Nat.ble aU cap with
  | false => rfl
  | true => rw [Nat.ble_eq] at hh; exact absurd hh this
 have e3 : Nat.ble (len + n) cap = false := by
  cases hh : Nat.ble (len + n) cap with
  | false => rfl
  | true => rw [Nat.ble_eq] at hh; omega
 rw [eO (show n ≠ 0 by omega)]
 simp only [cond_false]
 rw [bT, show Nat.add len n = len + n from rfl, e, fe, e2, e3, eO (show len ≠ 0 by omega)]
 simp only [cond_false]
 have nK : 0 < len * sz := Nat.mul_pos hl h1
 rw [show Nat.mul len sz = len * sz from rfl, Og hr ho nK, ti, vQ h ty ha, bT]
 rfl
end
theorem agn : WP .mkMap [] h R ↔ R (.map (some h.nx)) (h.dR (.map [] 0)) := cP fun k => by
 show kL h (.map [] 0) (fun b h => k (.map (some b)) h) = _
 rw [Bw]
end
end
end Go.Ve
namespace Go.Ve
open Go.RowKit
open Classical
noncomputable section
def AH.oA (h : AH) (b : Nat) : Nat → Nat → Option (List Value)
 | _, 0 => some []
 | o, n + 1 => match h.rd b o with
  | none => none
  | some v => match h.oA b (o + 1) n with
   | none => none
   | some l => some (v :: l)
theorem AH.XD {h : AH} {b : Nat} : ∀ {n o : Nat} {l : List Value}, h.oA b o n = some l → l.length = n ∧ h.aZ b o l
 | 0, o, l, e => by cases e; exact ⟨rfl, AH.Oa h b o⟩
 | n + 1, o, l, e => by
  unfold AH.oA at e
  split at e
  · cases e
  · rename_i v hv
    split at e
    · cases e
    · rename_i m hm
      cases e
      obtain ⟨h1, h2⟩ := AH.XD hm
      exact ⟨by simp [h1], AH.Xu.2 ⟨hv, h2⟩⟩
theorem AH.XE {h : AH} {b : Nat} : ∀ {l : List Value} {n o : Nat}, l.length = n → h.aZ b o l → h.oA b o n = some l
 | [], n, o, hn, _ => by subst hn; rfl
 | v :: l, n, o, hn, hr => by
  subst hn
  obtain ⟨h1, h2⟩ := AH.Xu.1 hr
  show (match h.rd b o with | none => none | some v => match h.oA b (o + 1) l.length with | none => none | some l => some (v :: l)) = _
  rw [h1, AH.XE rfl h2]
theorem AH.OM (h : AH) (b o : Nat) : h.oA b o 0 = some [] := rfl
theorem AH.ON (h : AH) (b o n : Nat) : h.oA b o (n + 1) = (h.rd b o).bind fun v => (h.oA b (o + 1) n).map (v :: ·) := by
 show (match h.rd b o with | none => none | some v => match h.oA b (o + 1) n with | none => none | some l => some (v :: l)) = _
 cases h.rd b o with
 | none => rfl
 | some v => cases h.oA b (o + 1) n <;> rfl
theorem AH.GJ (h : AH) (ty : TypeId) (l : List Value) (b o n : Nat) : (h.new ty l).can b o n ↔ (if b = h.nx then o + n ≤ l.length else h.can b o n) := by
 by_cases e : b = h.nx
 · subst e
   rw [if_pos rfl]
   constructor
   · rintro ⟨lo, hi, bU, c, h1, h2, h3⟩
     have gM : (h.ob.set h.nx (some (.cells 0 l.length ty true (iR .e 0 l)))).get h.nx = some (.cells lo hi bU true c) := h1
     rw [NT.c7, if_pos rfl] at gM
     cases gM; exact h3
   · exact fun hn => AH.Xs h ty l hn
 · rw [if_neg e]
   constructor
   · rintro ⟨lo, hi, bU, c, h1, h2, h3⟩
     have gM : (h.ob.set h.nx (some (.cells 0 l.length ty true (iR .e 0 l)))).get b = some (.cells lo hi bU true c) := h1
     rw [NT.c7, if_neg e] at gM
     exact ⟨lo, hi, bU, c, gM, h2, h3⟩
   · exact fun H => AH.afR ty l H e
theorem AH.OO (h : AH) (b o : Nat) (l : List Value) (b' o' n' : Nat) : (h.wr b o l).can b' o' n' ↔ h.can b' o' n' := by
 refine ⟨fun H => ?_, AH.Xt⟩
 by_cases e : b' = b
 · subst e
   obtain ⟨lo, hi, ty, c, h1, h2, h3⟩ := H
   unfold AH.wr at h1
   split at h1
   · rename_i tn cz bU lQ c' heq
     have gM : (h.ob.set b' (some (.cells tn cz bU lQ (iR c' o l)))).get b' = some (.cells lo hi ty true c) := h1
     rw [NT.c7, if_pos rfl] at gM
     cases gM
     exact ⟨lo, hi, ty, c', heq, h2, h3⟩
   · exact ⟨lo, hi, ty, c, h1, h2, h3⟩
 · obtain ⟨lo, hi, ty, c, h1, h2, h3⟩ := H
   rw [AH.tk h e] at h1
   exact ⟨lo, hi, ty, c, h1, h2, h3⟩
theorem AH.OP {h : AH} {b o : Nat} {l : List Value} (H : h.can b o l.length) (b' o' : Nat) : (h.wr b o l).rd b' o' = if b' = b ∧ o ≤ o' ∧ o' < o + l.length then l[o' - o]? else h.rd b' o' := AH.yt H (Nat.le_refl _) b' o'
section
variable {h : AH} {R : Value → AH → Prop}
theorem OQ {b o : Nat} {s : Option Nat} : WP .aI [.pointer (some ⟨b, o, s⟩)] h R ↔ ∃ v, h.rd b o = some v ∧ R v h := by
 constructor
 · intro H
   have e : pM h b o (fun v => decide (R v h)) = true := H (fun v h => decide (R v h)) fun _ _ hr => decide_eq_true hr
   obtain ⟨lo, hi, ty, rw, c, v, h1, h2, h3, h4, h5⟩ := Ft e
   refine ⟨v, ?_, of_decide_eq_true h5⟩
   unfold AH.rd
   rw [h1]
   show (if lo ≤ o ∧ o + 1 ≤ hi then c.get o else none) = some v
   rw [if_pos ⟨h2, h3⟩, h4]
 · rintro ⟨v, h1, h2⟩; exact (Gw h1).2 h2
theorem lz {b o n : Nat} {s : Option Nat} (h0 : 0 < n) : WP (.bF n) [.pointer (some ⟨b, o, s⟩)] h R ↔ ∃ l, h.oA b o n = some l ∧ R (.agg ⟨l⟩) h := by
 constructor
 · intro H
   have e : kI h b o n (fun l => decide (R (.agg ⟨l⟩) h)) = true := H (fun v h => decide (R v h)) fun _ _ hr => decide_eq_true hr
   obtain ⟨lo, hi, ty, rw, c, l, h1, h2, h3, h4, h5, h6⟩ := sD e
   refine ⟨l, AH.XE h4 fun i v hv => ?_, of_decide_eq_true h6⟩
   have cz : i < n := by have := (List.getElem?_eq_some_iff.1 hv).1; omega
   unfold AH.rd
   rw [h1]
   show (if lo ≤ o + i ∧ o + i + 1 ≤ hi then c.get (o + i) else none) = some v
   rw [if_pos ⟨by omega, by omega⟩, h5 i v hv]
 · rintro ⟨l, h1, h2⟩
   obtain ⟨h3, h4⟩ := AH.XD h1
   exact (Gx h4 h3 h0).2 h2
theorem OS {b o n : Nat} {s : Option Nat} {v : Value} : WP (.store n) [.pointer (some ⟨b, o, s⟩), v] h R ↔ (cellsOf v).length = n ∧ cO (cellsOf v) = true ∧ h.can b o n ∧ R undef (h.wr b o (cellsOf v)) := by
 constructor
 · intro H
   have e : iff (hY (cellsOf v) n) (pS h b o (cellsOf v) fun h => decide (R undef h)) = true := H (fun v h => decide (R v h)) fun _ _ hr => decide_eq_true hr
   obtain ⟨h1, h2⟩ := bV e
   rw [tp, decide_eq_true_eq] at h1
   have hc : h.can b o (cellsOf v).length ∧ cO (cellsOf v) = true := by
    obtain ⟨lo, hi, ty, rw, c, g1, g2⟩ := rl (show kM h b _ = true from h2)
    obtain ⟨g3, g4⟩ := bV g2
    simp only [Bool.and_eq_true] at g3
    obtain ⟨⟨⟨r1, r2⟩, r3⟩, r4⟩ := g3
    subst r1
    exact ⟨⟨lo, hi, ty, c, g1, Nat.le_of_ble_eq_true r2, Nat.le_of_ble_eq_true r3⟩, r4⟩
   rw [Oh hc.1 hc.2] at h2
   exact ⟨h1, hc.2, h1 ▸ hc.1, of_decide_eq_true h2⟩
 · rintro ⟨h1, h2, h3, h4⟩
   exact (Gy h3 h1 h2).2 h4
theorem GK {l : List Value} {i : Nat} : WP (.extract i) [.tuple ⟨l⟩] h R ↔ ∃ v, l[i]? = some v ∧ R v h := by
 constructor
 · intro H
   have e : nF l i (fun v => decide (R v h)) = true := H (fun v h => decide (R v h)) fun _ _ hr => decide_eq_true hr
   cases hv : l[i]? with
   | some v => rw [Gz hv] at e; exact ⟨v, rfl, of_decide_eq_true e⟩
   | none =>
    exfalso
    clear H
    induction l generalizing i with
    | nil => cases e
    | cons x l ih => cases i with
     | zero => simp at hv
     | succ i => exact ih (show nF l i _ = true from e) (by simpa using hv)
 · rintro ⟨v, h1, h2⟩; exact (jC h1).2 h2
theorem OT {l : List Value} {i : Nat} : WP (.LD i) [.agg ⟨l⟩] h R ↔ ∃ v, l[i]? = some v ∧ R v h :=
 (show WP (.LD i) [.agg ⟨l⟩] h R ↔ WP (.extract i) [.tuple ⟨l⟩] h R from Iff.rfl).trans GK
end
theorem OU (k : IntKind) (n : Int) : dZ (.int k n) = true := rfl
theorem OV (b : Bool) : dZ (.bool b) = true := rfl
theorem OW (s : ByteArray) : dZ (.string s) = true := rfl
theorem OX (a : Option Addr) : dZ (.pointer a) = true := rfl
theorem OY (a : Option Addr) (n c : Nat) : dZ (.slice a n c) = true := rfl
theorem OZ (a : Option Nat) : dZ (.map a) = true := rfl
theorem O0 (f : Fn) (a b : Array Value) : dZ (.func f a b) = true := rfl
theorem bn (l : List Value) : cellsOf (.agg ⟨l⟩) = l := rfl
theorem bo (k : IntKind) (n : Int) : cellsOf (.int k n) = [.int k n] := rfl
theorem bp (b : Bool) : cellsOf (.bool b) = [.bool b] := rfl
theorem bt (s : ByteArray) : cellsOf (.string s) = [.string s] := rfl
theorem O1 (a : Option Addr) : cellsOf (.pointer a) = [.pointer a] := rfl
theorem O2 (a : Option Addr) (n c : Nat) : cellsOf (.slice a n c) = [.slice a n c] := rfl
theorem O3 (a : Option Nat) : cellsOf (.map a) = [.map a] := rfl
theorem O4 (f : Fn) (a b : Array Value) : cellsOf (.func f a b) = [.func f a b] := rfl
theorem oB {v : Value} (h : dZ v = true) : cellsOf v = [v] := by
 cases v <;> first | rfl | cases h
theorem O5 : cO [] = true := rfl
theorem tr (v : Value) (l : List Value) : cO (v :: l) = (dZ v && cO l) := by
 show (bif dZ v then cO l else false) = _
 cases dZ v <;> rfl
def kp (l : List Value) (o : Nat) (m : List Value) : List Value := l.take o ++ m ++ l.drop (o + m.length)
def kq : List Value → List (Nat × Nat) → List Value → Option (List Value)
 | l, [], [] => some l
 | l, (o, n) :: ps, v :: vs => if (cellsOf v).length = n ∧ o + n ≤ l.length then kq (kp l o (cellsOf v)) ps vs else none
 | _, _, _ => none
theorem XF : ∀ {l m : List Value} (_ : m.length ≤ l.length) (k : List Value → Bool), kK l m k = k (m ++ l.drop m.length)
 | [], [], _, k => rfl
 | [], v :: m, h, k => by simp at h
 | x :: l, [], h, k => rfl
 | x :: l, v :: m, h, k => by
  show kK l m (fun l' => k (v :: l')) = _
  rw [XF (by simpa using h)]; simp
theorem O6 : ∀ {l : List Value} {o : Nat} {m : List Value} (_ : o + m.length ≤ l.length) (k : List Value → Bool), np l o m k = k (kp l o m)
 | [], 0, [], h, k => rfl
 | [], 0, v :: m, h, k => by simp at h
 | [], o + 1, m, h, k => by simp at h
 | x :: l, 0, m, h, k => by
  show kK (x :: l) m k = _
  rw [XF (by omega)]; unfold kp; rw [List.take_zero, List.nil_append, Nat.zero_add]
 | x :: l, o + 1, m, h, k => by
  show np l o m (fun l' => k (x :: l')) = _
  rw [O6 (by simp at h; omega)]
  unfold kp
  rw [show o + 1 + m.length = (o + m.length) + 1 by omega]
  rfl
theorem O7 : ∀ {ps : List (Nat × Nat)} {l vs m : List Value} (_ : kq l ps vs = some m) (k : List Value → Bool), iL l ps vs k = k m
 | [], l, [], m, e, k => by cases e; rfl
 | [], l, v :: vs, m, e, k => by cases e
 | (o, n) :: ps, l, [], m, e, k => by cases e
 | (o, n) :: ps, l, v :: vs, m, e, k => by
  unfold kq at e
  split at e
  · rename_i hc
    show (bif hY (cellsOf v) n then np l o (cellsOf v) fun l' => iL l' ps vs k else false) = _
    rw [tp, decide_eq_true hc.1]
    simp only [cond_true]
    rw [O6 (by rw [hc.1]; exact hc.2), O7 e]
  · cases e
def cQ : List Nat → List Value → Bool
 | [], [] => true
 | n :: ns, v :: vs => decide ((cellsOf v).length = n) && cQ ns vs
 | _, _ => false
theorem XG : ∀ {ss : List Nat} {vs : List Value}, cQ ss vs = true → ss = vs.map fun v => (cellsOf v).length
 | [], [], _ => rfl
 | n :: ns, v :: vs, e => by
  unfold cQ at e
  rw [Bool.and_eq_true, decide_eq_true_eq] at e
  rw [List.map_cons, XG e.2, e.1]
 | [], _ :: _, e => by cases e
 | _ :: _, [], e => by cases e
section
variable {h : AH} {R : Value → AH → Prop}
theorem GL {ss : List Nat} {vs : List Value} (hs : cQ ss vs = true) : WP (.db ss) vs h R ↔ R (.agg ⟨vs.flatMap cellsOf⟩) h := af1 (XG hs)
theorem gD {zero l : List Value} {ps : List (Nat × Nat)} {vs : List Value} (hf : kq zero ps vs = some l) : WP (.build zero ps) vs h R ↔ R (.agg ⟨l⟩) h := agb (O7 hf)
theorem ago {ty : TypeId} {n : Nat} {cells l : List Value} {ps : List (Nat × Nat)} {vs : List Value} (hf : kq cells ps vs = some l) (ha : cO l = true) : WP (.buildSlice ty n cells ps) vs h R ↔ R (eT h.nx 0 n n) (h.new ty l) := agc (O7 hf) ha
end
theorem O8 : ∀ {l m : List Value} {k : List Value → Bool}, kK l m k = true → m.length ≤ l.length
 | [], [], k, _ => Nat.le_refl _
 | [], v :: m, k, h => by cases h
 | x :: l, [], k, _ => Nat.zero_le _
 | x :: l, v :: m, k, h => by
  have := O8 (show kK l m (fun l' => k (v :: l')) = true from h)
  simpa using this
theorem XH : ∀ {l : List Value} {o : Nat} {m : List Value} {k : List Value → Bool}, np l o m k = true → o + m.length ≤ l.length
 | [], 0, m, k, h => by have := O8 (show kK [] m k = true from h); simpa using this
 | [], o + 1, m, k, h => by cases h
 | x :: l, 0, m, k, h => by have := O8 (show kK (x :: l) m k = true from h); omega
 | x :: l, o + 1, m, k, h => by
  have := XH (show np l o m (fun l' => k (x :: l')) = true from h)
  simp only [List.length_cons]; omega
theorem XI : ∀ {ps : List (Nat × Nat)} {l vs : List Value} {k : List Value → Bool}, iL l ps vs k = true → ∃ m, kq l ps vs = some m ∧ k m = true
 | [], l, [], k, h => ⟨l, rfl, h⟩
 | [], l, v :: vs, k, h => by cases h
 | (o, n) :: ps, l, [], k, h => by cases h
 | (o, n) :: ps, l, v :: vs, k, h => by
  have h' : (bif hY (cellsOf v) n then np l o (cellsOf v) fun l' => iL l' ps vs k else false) = true := h
  cases hl : hY (cellsOf v) n with
  | false => rw [hl] at h'; cases h'
  | true =>
   rw [hl] at h'
   have h2 : np l o (cellsOf v) (fun l' => iL l' ps vs k) = true := h'
   rw [tp, decide_eq_true_eq] at hl
   have h3 := XH h2
   rw [O6 h3] at h2
   obtain ⟨m, h4, h5⟩ := XI h2
   refine ⟨m, ?_, h5⟩
   unfold kq
   rw [if_pos ⟨hl, by rw [← hl]; exact h3⟩]; exact h4
section
variable {h : AH} {R : Value → AH → Prop}
theorem O9 {zero : List Value} {ps : List (Nat × Nat)} {vs : List Value} : WP (.build zero ps) vs h R ↔ ∃ l, kq zero ps vs = some l ∧ R (.agg ⟨l⟩) h := by
 constructor
 · intro H
   obtain ⟨m, h1, h2⟩ := XI (show iL zero ps vs (fun l => decide (R (.agg ⟨l⟩) h)) = true from H (fun v h => decide (R v h)) fun _ _ hr => decide_eq_true hr)
   exact ⟨m, h1, of_decide_eq_true h2⟩
 · rintro ⟨l, h1, h2⟩; exact (gD h1).2 h2
end
theorem Pa {sz : Nat} : ∀ {l : List (List Value)} {i : Nat} {x : List Value}, (∀ x ∈ l, x.length = sz) → l[i]? = some x → ∀ j v, x[j]? = some v → l.flatten[i * sz + j]? = some v
 | [], i, x, _, e, j, v, hv => by simp at e
 | y :: l, 0, x, hs, e, j, v, hv => by
  simp at e; subst e
  have : j < y.length := (List.getElem?_eq_some_iff.1 hv).1
  simp [List.getElem?_append_left this, hv]
 | y :: l, i + 1, x, hs, e, j, v, hv => by
  have h1 := hs y List.mem_cons_self
  have := Pa (fun x hx => hs x (List.mem_cons_of_mem _ hx)) (show l[i]? = some x by simpa using e) j v hv
  rw [List.flatten_cons, List.getElem?_append_right (by rw [h1, Nat.add_mul]; omega), h1]
  rw [show (i + 1) * sz + j - sz = i * sz + j by rw [Nat.add_mul]; omega]
  exact this
end
end Go.Ve
