/- Part 12: VEval, part 52: for whatever can be read as plain data there is an abstract heap that stands for it. Condition: the types are plain. And what follows it. -/
import Derived.Test.YteeibihhdldjfaaGreatDoorVeK
import Derived.DataReads
set_option linter.unusedVariables false
set_option linter.unusedSimpArgs false
namespace Go.Ve
open Go.ChangeShapes Go.WideShapes Go.ChangeAt Go.RowKit
section
variable {H : Type} {enc : TypeId × Value → H} {P : Program}
def BM (P : Program) : Nat → List Field → Nat → Bool
 | o, [], n => o == n
 | o, f :: fs, n => f.offset == o && BM P (o + P.cellsOf f.type) fs n
def tU (P : Program) : Nat → TypeId → Bool
 | 0, _ => false
 | n + 1, t => match P.underlying t with
  | some .bool => true
  | some (.int _) => true
  | some .string => true
  | some (.slice e) => decide (0 < P.cellsOf e) && tU P n e
  | some (.struct fs) => BM P 0 fs.toList (P.cellsOf t) && fs.toList.all fun f => tU P n f.type
  | some (.array k e) => (k * P.cellsOf e == P.cellsOf t) && tU P n e
  | _ => false
def yp (P : Program) (W : World) (t : TypeId) (cd : List Value) (d : DataW H) : Prop :=
 ∀ (φ : au) (h : AH), HR P W φ h W → ∃ φ' h' cs, HR P W φ' h' W ∧ Ext h.nx φ φ' ∧ cU h h' ∧ LR φ' cs cd ∧ AD P h' t cs d
theorem Wz {W : World} {t : TypeId} : ∀ (l : List (List Value × DataW H)), (∀ x ∈ l, yp P W t x.1 x.2) → ∀ (φ : au) (h : AH), HR P W φ h W →
 ∃ (φ' : au) (h' : AH) (cM : List (List Value)), HR P W φ' h' W ∧ Ext h.nx φ φ' ∧ cU h h' ∧ cM.length = l.length ∧ ∀ (i : Nat) (cs : List Value) (x : List Value × DataW H), cM[i]? = some cs → l[i]? = some x → LR φ' cs x.1 ∧ AD P h' t cs x.2 := by
 intro l
 induction l with
 | nil => intro _ φ h R; exact ⟨φ, h, [], R, Ext.refl _ _, cU.refl _, rfl, fun i cs x h1 => by simp at h1⟩
 | cons x l ih =>
  intro eO φ h R
  obtain ⟨φ1, h1, cs, R1, E1, K1, L1, A1⟩ := eO x List.mem_cons_self φ h R
  obtain ⟨φ2, h2, cM, R2, E2, K2, hl, hA⟩ := ih (fun y hy => eO y (List.mem_cons_of_mem _ hy)) φ1 h1 R1
  refine ⟨φ2, h2, cs :: cM, R2, E1.trans E2 K1.nx, K1.trans K2, by simp [hl], fun i c y g1 g2 => ?_⟩
  cases i with
  | zero =>
   simp at g1 g2
   subst g1; subst g2
   exact ⟨LR.ext E2 L1, A1.cj K2 R1.top⟩
  | succ i => exact hA i c y (by simpa using g1) (by simpa using g2)
theorem GM {α : Type} : ∀ (cM : List (List α)) (z : Nat), (∀ cs ∈ cM, cs.length = z) → ∀ (i j : Nat) (cs : List α), cM[i]? = some cs → j < z → cM.flatten[i * z + j]? = cs[j]?
 | [], z, _, i, j, cs, h, _ => by simp at h
 | c :: cM, z, hz, 0, j, cs, h, hj => by
  simp at h; subst h
  have : c.length = z := hz c List.mem_cons_self
  rw [List.flatten_cons, Nat.zero_mul, Nat.zero_add, List.getElem?_append_left (by omega)]
 | c :: cM, z, hz, i + 1, j, cs, h, hj => by
  have hc : c.length = z := hz c List.mem_cons_self
  rw [List.flatten_cons, List.getElem?_append_right (by rw [hc, Nat.add_mul]; omega)]
  have := GM cM z (fun x hx => hz x (List.mem_cons_of_mem _ hx)) i j cs (by simpa using h) hj
  rw [← this]
  congr 1
  rw [hc, Nat.add_mul]; omega
theorem Oa {α : Type} : ∀ (cM : List (List α)) (z : Nat), (∀ cs ∈ cM, cs.length = z) → cM.flatten.length = cM.length * z
 | [], z, _ => by simp
 | c :: cM, z, hz => by
  rw [List.flatten_cons, List.length_append, Oa cM z (fun x hx => hz x (List.mem_cons_of_mem _ hx)), hz c List.mem_cons_self, List.length_cons, Nat.add_mul]; omega
theorem afq {W : World} {cd : List Value} {n : Nat} (ei : cd.length = n) : ∀ (fs : List Field) (ds : List (DataW H)) (o : Nat), BM P o fs n = true → ds.length = fs.length →
    (∀ (i : Nat) (f : Field) (d : DataW H), fs[i]? = some f → ds[i]? = some d → yp P W f.type ((cd.drop f.offset).take (P.cellsOf f.type)) d) → ∀ (φ : au) (h : AH), HR P W φ h W →
    ∃ φ' h' cs, HR P W φ' h' W ∧ Ext h.nx φ φ' ∧ cU h h' ∧ o ≤ n ∧ LR φ' cs (cd.drop o) ∧ ∀ (i : Nat) (f : Field) (d : DataW H), fs[i]? = some f → ds[i]? = some d → o ≤ f.offset ∧ AD P h' f.type ((cs.drop (f.offset - o)).take (P.cellsOf f.type)) d := by
  intro fs
  induction fs with
  | nil =>
    intro ds o ht hl _ φ h R
    simp only [BM, beq_iff_eq] at ht
    exact ⟨φ, h, [], R, Ext.refl _ _, cU.refl _, by omega, by rw [List.drop_eq_nil_of_le (by omega)]; exact .nil, fun i f d h1 => by simp at h1⟩
  | cons f fs ih =>
    intro ds o ht hl eO φ h R
    simp only [BM, Bool.and_eq_true, beq_iff_eq] at ht
    obtain ⟨ho, ht⟩ := ht
    cases ds with
    | nil => simp at hl
    | cons d ds =>
      obtain ⟨φ1, h1, c1, R1, E1, K1, L1, A1⟩ := eO 0 f d rfl rfl φ h R
      obtain ⟨φ2, h2, c2, R2, E2, K2, hon, L2, A2⟩ := ih ds (o + P.cellsOf f.type) ht (by simpa using hl) (fun i f' d' g1 g2 => eO (i + 1) f' d' (by simpa using g1) (by simpa using g2)) φ1 h1 R1
      rw [ho] at L1
      have hlen : c1.length = P.cellsOf f.type := by
        rw [L1.length, List.length_take, List.length_drop]; omega
      refine ⟨φ2, h2, c1 ++ c2, R2, E1.trans E2 K1.nx, K1.trans K2, by omega, ?_, fun i f' d' g1 g2 => ?_⟩
      · have : cd.drop o = (cd.drop o).take (P.cellsOf f.type) ++ cd.drop (o + P.cellsOf f.type) := by
          rw [← List.drop_drop, List.take_append_drop]
        rw [this]
        exact LR.append L2 (LR.ext E2 L1)
      · cases i with
        | zero =>
          simp at g1 g2
          subst g1; subst g2
          refine ⟨by omega, ?_⟩
          rw [ho, Nat.sub_self, List.drop_zero, List.take_append_of_le_length (by omega), List.take_of_length_le (by omega)]
          exact A1.cj K2 R1.top
        | succ i =>
          obtain ⟨a1, a2⟩ := A2 i f' d' (by simpa using g1) (by simpa using g2)
          refine ⟨by omega, ?_⟩
          rw [List.drop_append, List.drop_eq_nil_of_le (by omega), List.nil_append]
          rw [show f'.offset - o - c1.length = f'.offset - (o + P.cellsOf f.type) by omega]
          exact a2
theorem afr {W : World} {t e : TypeId} {a : Addr} {len cap : Nat} {gh rest : List (DataW H)} (hu : P.underlying t = some (.slice e)) (hz : 0 < P.cellsOf e) (hlen : len ≤ cap) (gL : cap ≤ maxLen) (hn : gh.length = len) (hr : rest.length = cap - len)
 (BN : ∀ (i : Nat) (d : DataW H), (gh ++ rest)[i]? = some d → ∃ cd, W.cells? 0 (a.add (i * P.cellsOf e)) (P.cellsOf e) = some cd ∧ yp P W e cd d) : yp P W t [.slice (some a) len cap] (.slice gh rest) := by
 intro φ h R
 have afs : cap < aT := Nat.lt_of_le_of_lt gL (by decide)
 rcases Nat.eq_zero_or_pos cap with h0 | h0
 · -- no cell at all
   obtain ⟨R1, E1, K1⟩ := R.afp
   have he : gh = [] := List.eq_nil_of_length_eq_zero (by omega)
   have oP : rest = [] := List.eq_nil_of_length_eq_zero (by omega)
   subst he; subst oP
   have ib : len = 0 := by omega
   subst ib; subst h0
   refine ⟨_, _, [.slice (some ⟨h.nx, 0, none⟩) 0 0], R1, E1, K1, .cons _ _ _ _ (.sl _ _ _ _ _ (by simp [au.put]) (.inl ⟨by decide, rfl, Nat.le_refl _, fun hh => absurd hh (Nat.lt_irrefl 0)⟩)) .nil, ?_⟩
   exact .sl t e h.nx 0 0 0 [] [] [] hu rfl (Nat.le_refl _) (Nat.zero_le _) rfl (fun cs ei => by cases ei) (AH.MY _ _ _) (fun i cs d h1 => by simp at h1)
 · have eO : (gh ++ rest).length = cap := by rw [List.length_append]; omega
   obtain ⟨d0, kW⟩ : ∃ d, (gh ++ rest)[0]? = some d := ⟨(gh ++ rest)[0]'(by omega), List.getElem?_eq_getElem (by omega)⟩
   obtain ⟨c0, vA, _⟩ := BN 0 d0 kW
   obtain ⟨_, alS, aft⟩ := World.cells?_some vA
   have mY := aft 0 hz
   rw [show (a.add (0 * P.cellsOf e)).add 0 = a by rw [Nat.zero_mul]; rfl] at mY
   have afu : c0[0]? = some (c0[0]'(by omega)) := List.getElem?_eq_getElem (by omega)
   rw [afu] at mY
   obtain ⟨arr, ty, fr, hw, GN⟩ : ∃ arr ty fr, W.heap[a.block]? = some (.cells arr ty fr) ∧ a.spot = none := by
    unfold World.cell? at mY
    split at mY
    · rename_i arr ty fr hh
      refine ⟨arr, ty, fr, hh, ?_⟩
      split at mY
      · cases mY
      · rename_i hs; simpa using hs
    · cases mY
   have afv : ∀ (j : Nat), W.cell? (a.add j) = arr[a.off + j]? := by
    intro j
    rw [lJ a GN]
    unfold World.cell?
    simp only [hw]; rfl
   have Oc : ∀ (i : Nat) (d : DataW H), gh[i]? = some d → ∃ cd, W.cells? 0 (a.add (i * P.cellsOf e)) (P.cellsOf e) = some cd ∧ yp P W e cd d := fun i d hd => BN i d (by rw [List.getElem?_append_left (List.getElem?_eq_some_iff.1 hd).1]; exact hd)
   let l : List (List Value × DataW H) := (List.range len).map fun i => ((W.cells? 0 (a.add (i * P.cellsOf e)) (P.cellsOf e)).getD [], gh.getD i .nil)
   have kb : l.length = len := by simp [l]
   have n5 : ∀ (i : Nat) (d : DataW H), gh[i]? = some d → l[i]? = some ((W.cells? 0 (a.add (i * P.cellsOf e)) (P.cellsOf e)).getD [], d) := by
    intro i d hd
    have hi : i < len := by rw [← hn]; exact (List.getElem?_eq_some_iff.1 hd).1
    simp [l, hi, List.getD, hd]
   obtain ⟨φ1, h1, cM, R1, E1, K1, jz, hA⟩ := Wz (P := P) (W := W) (t := e) l (fun x hx => by
    obtain ⟨i, hi⟩ := List.getElem?_of_mem hx
    have tV : i < len := by rw [← kb]; exact (List.getElem?_eq_some_iff.1 hi).1
    have hd : gh[i]? = some (gh[i]'(by omega)) := List.getElem?_eq_getElem (by omega)
    obtain ⟨cd, g1, g2⟩ := Oc i _ hd
    rw [n5 i _ hd] at hi
    cases hi
    rw [g1]
    exact g2) φ h R
   have pW : ∀ cs ∈ cM, cs.length = P.cellsOf e := by
    intro cs ei
    obtain ⟨i, hi⟩ := List.getElem?_of_mem ei
    have tV : i < len := by rw [← kb, ← jz]; exact (List.getElem?_eq_some_iff.1 hi).1
    have hd : gh[i]? = some (gh[i]'(by omega)) := List.getElem?_eq_getElem (by omega)
    obtain ⟨cd, g1, _⟩ := Oc i _ hd
    obtain ⟨L1, _⟩ := hA i cs _ hi (n5 i _ hd)
    rw [g1] at L1
    rw [L1.length]
    exact (World.cells?_some g1).2.1
   have oX : a.block < W.heap.size := (Array.getElem?_eq_some_iff.1 hw).1
   obtain ⟨h2, R2, E2, K2, nV, iN⟩ := R1.look (o := a.off) (l := cM.flatten) hw oX (fun i v hv => by
    have yr := Oa cM _ pW
    have hi : i < cM.length * P.cellsOf e := by rw [← yr]; exact (List.getElem?_eq_some_iff.1 hv).1
    have GO := Nat.div_add_mod i (P.cellsOf e)
    have BO := Nat.mod_lt i hz
    have hq : i / P.cellsOf e < cM.length := Nat.div_lt_of_lt_mul (by rw [Nat.mul_comm]; exact hi)
    have ei : cM[i / P.cellsOf e]? = some (cM[i / P.cellsOf e]) := List.getElem?_eq_getElem hq
    have BP := GM cM _ pW _ (i % P.cellsOf e) _ ei BO
    rw [show i / P.cellsOf e * P.cellsOf e + i % P.cellsOf e = i by rw [Nat.mul_comm]; exact GO] at BP
    rw [BP] at hv
    have tV : i / P.cellsOf e < len := by omega
    have hd : gh[i / P.cellsOf e]? = some (gh[i / P.cellsOf e]'(by omega)) := List.getElem?_eq_getElem (by omega)
    obtain ⟨cd, g1, _⟩ := Oc _ _ hd
    obtain ⟨L1, _⟩ := hA _ _ _ ei (n5 _ _ hd)
    rw [g1] at L1
    obtain ⟨v', a1, a2⟩ := L1.get _ _ hv
    obtain ⟨_, b1, b2⟩ := World.cells?_some g1
    have b3 := b2 (i % P.cellsOf e) BO
    have GP : cd[i % P.cellsOf e]? = some v' := a1
    rw [GP] at b3
    refine ⟨v', ?_, a2⟩
    have e1 : (a.add (i / P.cellsOf e * P.cellsOf e)).add (i % P.cellsOf e) = a.add i := by
     rw [lJ a GN, lJ _ rfl, lJ a GN]
     simp only [Addr.mk.injEq, true_and, and_true]
     rw [Nat.mul_comm]; omega
    rw [e1, afv] at b3
    exact b3)
   refine ⟨_, h2, [.slice (some ⟨h1.nx, a.off, none⟩) len cap], R2, E1.trans E2 K1.nx, K1.trans K2, .cons _ _ _ _ (.sl _ _ _ _ _ (by simp [au.put]) (.inl ⟨afs, rfl, hlen, fun _ => ?_⟩)) .nil, ?_⟩
   · intro b d n hl
     have fR : (φ1.put h1.nx (.live a.block 0 arr.size)) h1.nx = some (.live b d n) := hl
     rw [au.gN] at fR
     cases fR
     exact ⟨rfl, rfl, GN⟩
   · exact .sl t e h1.nx a.off len cap gh rest cM hu hn hlen gL (by omega) pW nV (fun i cs d g1 g2 => ((hA i cs _ g1 (n5 i d g2)).2).cj K2 R1.top)
theorem LR.GQ {φ : au} {v : Value} (h : VR φ v v) : LR φ [v] [v] := .cons _ _ _ _ h .nil
theorem WA {α : Type} {l : List α} {o n j : Nat} (hj : j < n) : ((l.drop o).take n)[j]? = l[o + j]? := by
 rw [List.getElem?_take, if_pos hj, List.getElem?_drop]
theorem afw {W : World} : ∀ (n : Nat) (t : TypeId) (cd : List Value) (x : DataW H × List MemPlace) (fuel : Nat), tU P n t = true → DataW.trod enc P W 0 (fun _ => true) true fuel t cd = some x → yp P W t cd x.1 := by
  intro n
  induction n with
  | zero => intro t cd x fuel hp; cases hp
  | succ n ih =>
    intro t cd x fuel hp ht
    rw [tU] at hp
    cases hu : P.underlying t with
    | none => rw [hu] at hp; cases hp
    | some ty =>
      rw [hu] at hp
      cases ty <;> first | (exact Bool.noConfusion hp) | skip
      case bool =>
        obtain ⟨b, rfl, rfl⟩ := DataW.trod_bool hu ht
        exact fun φ h R => ⟨φ, h, _, R, Ext.refl _ _, cU.refl _, LR.GQ (.bool _), .bool t _ hu⟩
      case int k =>
        obtain ⟨m, rfl, rfl, hw⟩ := DataW.trod_int hu ht
        exact fun φ h R => ⟨φ, h, _, R, Ext.refl _ _, cU.refl _, LR.GQ (.int _ _), .int t _ _ hu hw⟩
      case string =>
        obtain ⟨s, rfl, rfl, hs⟩ := DataW.trod_string hu ht
        exact fun φ h R => ⟨φ, h, _, R, Ext.refl _ _, cU.refl _, LR.GQ (.str _), .str t _ hu hs⟩
      case slice e =>
        simp only [Bool.and_eq_true, decide_eq_true_eq] at hp
        rcases DataW.trod_slice hu ht with ⟨rfl, rfl⟩ | ⟨a, len, cap, gh, rest, m, _, rfl, rfl, _, Gw, Mv, BN, he, hr, _⟩
        · exact fun φ h R => ⟨φ, h, _, R, Ext.refl _ _, cU.refl _, LR.GQ .lC, .lC t e hu⟩
        · obtain ⟨hrl, hr⟩ := hr rfl
          refine afr hu hp.1 Gw Mv (by simp [BN]) (by simp [hrl]) fun i d hd => ?_
          rw [← List.map_append, List.getElem?_map, Option.map_eq_some_iff] at hd
          obtain ⟨y, hy, rfl⟩ := hd
          have key : (W.cells? 0 (a.add (i * P.cellsOf e)) (P.cellsOf e)).bind (DataW.trod enc P W 0 (fun _ => true) true m e) = some y := by
            rcases Nat.lt_or_ge i len with h1 | h1
            · rw [he i h1]
              rw [List.getElem?_append_left (by omega)] at hy
              exact hy
            · have hi : i < gh.length + rest.length := by
                have := (List.getElem?_eq_some_iff.1 hy).1; simpa using this
              have := hr (i - len) (by omega)
              rw [show len + (i - len) = i by omega] at this
              rw [this]
              rw [List.getElem?_append_right (by omega), BN] at hy
              exact hy
          rw [Option.bind_eq_some_iff] at key
          obtain ⟨cd, h1, h2⟩ := key
          exact ⟨cd, h1, ih e cd y m hp.2 h2⟩
      case struct fs =>
        simp only [Bool.and_eq_true] at hp
        obtain ⟨xs, m, _, rfl, hl, na, hx⟩ := DataW.trod_struct hu ht
        intro φ h R
        obtain ⟨φ1, h1, cs, R1, E1, K1, _, L1, A1⟩ := afq (P := P) (W := W) hl fs.toList (xs.map (·.1)) 0 hp.1 (by simp [na]) (fun i f d g1 g2 => by
          rw [List.getElem?_map, Option.map_eq_some_iff] at g2
          obtain ⟨y, hy, rfl⟩ := g2
          have g1' : fs[i]? = some f := by simpa using g1
          have := hx i f g1'
          rw [hy] at this
          exact ih f.type _ y m (List.all_eq_true.1 hp.2 f (List.mem_of_getElem? g1)) this) φ h R
        rw [List.drop_zero] at L1
        refine ⟨φ1, h1, cs, R1, E1, K1, L1, .struct t fs cs _ hu (by rw [L1.length]; exact hl) (by simp [na]) fun i f d g1 g2 => ?_⟩
        have := (A1 i f d (by simpa using g1) g2).2
        rwa [Nat.sub_zero] at this
      case array k e =>
        simp only [Bool.and_eq_true, beq_iff_eq] at hp
        obtain ⟨xs, m, _, rfl, hl, na, hx⟩ := DataW.trod_array hu ht
        intro φ h R
        let l : List (List Value × DataW H) := (List.range k).map fun i => ((cd.drop (i * P.cellsOf e)).take (P.cellsOf e), (xs.map (·.1)).getD i .nil)
        have n5 : ∀ (i : Nat) (d : DataW H), (xs.map (·.1))[i]? = some d → l[i]? = some ((cd.drop (i * P.cellsOf e)).take (P.cellsOf e), d) := by
          intro i d hd
          have hi : i < k := by rw [← na]; have := (List.getElem?_eq_some_iff.1 hd).1; simpa using this
          show ((List.range k).map fun i => ((cd.drop (i * P.cellsOf e)).take (P.cellsOf e), (xs.map (·.1)).getD i .nil))[i]? = _
          rw [List.getElem?_map, List.getElem?_range hi, Option.map_some, List.getD_eq_getElem?_getD, hd]
          rfl
        have kb : l.length = k := by simp [l]
        have yt : ∀ i, i < k → ∃ y, xs[i]? = some y ∧ (xs.map (·.1))[i]? = some y.1 := fun i hi => ⟨xs[i]'(by omega), List.getElem?_eq_getElem (by omega), by rw [List.getElem?_map, List.getElem?_eq_getElem (by omega)]; rfl⟩
        obtain ⟨φ1, h1, cM, R1, E1, K1, jz, hA⟩ := Wz (P := P) (W := W) (t := e) l (fun x fm => by
          obtain ⟨i, hi⟩ := List.getElem?_of_mem fm
          have tV : i < k := by rw [← kb]; exact (List.getElem?_eq_some_iff.1 hi).1
          obtain ⟨y, GR, BQ⟩ := yt i tV
          rw [n5 i _ BQ] at hi
          cases hi
          have := hx i tV
          rw [GR] at this
          exact ih e _ y m hp.2 this) φ h R
        have mP : ∀ i, i < k → ((cd.drop (i * P.cellsOf e)).take (P.cellsOf e)).length = P.cellsOf e := by
          intro i hi
          rw [List.length_take, List.length_drop, hl, ← hp.1]
          have : (i + 1) * P.cellsOf e ≤ k * P.cellsOf e := Nat.mul_le_mul_right _ hi
          rw [Nat.add_mul] at this
          omega
        have pW : ∀ cs ∈ cM, cs.length = P.cellsOf e := by
          intro cs ei
          obtain ⟨i, hi⟩ := List.getElem?_of_mem ei
          have tV : i < k := by rw [← kb, ← jz]; exact (List.getElem?_eq_some_iff.1 hi).1
          obtain ⟨y, GR, BQ⟩ := yt i tV
          obtain ⟨L1, _⟩ := hA i cs _ hi (n5 i _ BQ)
          rw [L1.length]; exact mP i tV
        have yr := Oa cM _ pW
        have afx : cM.length = k := by omega
        have WB : cM.flatten.length = P.cellsOf t := by rw [yr, afx, hp.1]
        refine ⟨φ1, h1, cM.flatten, R1, E1, K1, LR.KA (by omega) fun i v v' g1 g2 => ?_, .arr t e k _ _ hu WB (by simp [na]) fun i d g => ?_⟩
        · have hi : i < k * P.cellsOf e := by rw [hp.1, ← WB]; exact (List.getElem?_eq_some_iff.1 g1).1
          have hz : 0 < P.cellsOf e := by
            rcases Nat.eq_zero_or_pos (P.cellsOf e) with h0 | h0
            · rw [h0, Nat.mul_zero] at hi; omega
            · exact h0
          have BO := Nat.mod_lt i hz
          have hq : i / P.cellsOf e < k := Nat.div_lt_of_lt_mul (by rw [Nat.mul_comm]; exact hi)
          have ei : cM[i / P.cellsOf e]? = some (cM[i / P.cellsOf e]'(by omega)) := List.getElem?_eq_getElem (by omega)
          have BP := GM cM _ pW _ (i % P.cellsOf e) _ ei BO
          have GO := Nat.div_add_mod i (P.cellsOf e)
          rw [show i / P.cellsOf e * P.cellsOf e + i % P.cellsOf e = i by rw [Nat.mul_comm]; exact GO] at BP
          rw [BP] at g1
          obtain ⟨y, GR, BQ⟩ := yt _ hq
          obtain ⟨L1, _⟩ := hA _ _ _ ei (n5 _ _ BQ)
          obtain ⟨u, a1, a2⟩ := L1.get _ _ g1
          have GP : ((cd.drop (i / P.cellsOf e * P.cellsOf e)).take (P.cellsOf e))[i % P.cellsOf e]? = some u := a1
          rw [WA BO, show i / P.cellsOf e * P.cellsOf e + i % P.cellsOf e = i by rw [Nat.mul_comm]; exact GO, g2] at GP
          cases GP
          exact a2
        · have hi : i < k := by rw [← na]; have := (List.getElem?_eq_some_iff.1 g).1; simpa using this
          have ei : cM[i]? = some (cM[i]'(by omega)) := List.getElem?_eq_getElem (by omega)
          have e1 : ((cM.flatten.drop (i * P.cellsOf e)).take (P.cellsOf e)) = cM[i]'(by omega) := by
            refine List.ext_getElem? fun j => ?_
            rcases Nat.lt_or_ge j (P.cellsOf e) with hj | hj
            · rw [WA hj]; exact GM cM _ pW i j _ ei hj
            · rw [List.getElem?_eq_none (by rw [List.length_take]; omega), List.getElem?_eq_none (by rw [pW _ (List.getElem_mem _)]; omega)]
          rw [e1]
          exact (hA i _ _ ei (n5 i _ g)).2
end
end Go.Ve
namespace Go.Ve
open Go.RowKit
open Classical
noncomputable section
def AH.lL (h : AH) (b : Nat) (o : AO) : AH := ⟨h.nx, h.ob.set b (some o)⟩
def AH.dY (h : AH) (o : AO) : AH := ⟨h.nx + 1, h.ob.set h.nx (some o)⟩
theorem AH.sh (h : AH) (b : Nat) (o : AO) (f : Nat) : (h.lL b o).ob.get f = if f = b then some o else h.ob.get f := by
 show (h.ob.set b (some o)).get f = _
 rw [NT.cZ]
theorem AH.qq (h : AH) (o : AO) (f : Nat) : (h.dY o).ob.get f = if f = h.nx then some o else h.ob.get f := by
 show (h.ob.set h.nx (some o)).get f = _
 rw [NT.cZ]
theorem AH.yd {h : AH} (H : h.Ok) (o : AO) : (h.dY o).Ok := fun f hf => by
 have : h.nx + 1 ≤ f := hf
 rw [AH.qq, if_neg (by omega)]
 exact H f (by omega)
theorem AH.Gt {h : AH} (H : h.Ok) {b : Nat} (hb : b < h.nx) (o : AO) : (h.lL b o).Ok := fun f hf => by
 have : h.nx ≤ f := hf
 rw [AH.sh, if_neg (by omega)]
 exact H f this
theorem cU.dY (h : AH) (o : AO) : cU h (h.dY o) := ⟨Nat.le_succ _, fun f hf => by rw [AH.qq, if_neg (by omega)]⟩
abbrev LO := LoopState → Option Code → AO
def isL (lo : LO) : Prop := ∃ fn tm ps a b d nt, ∀ st pd, lo st pd = .loop ⟨st, pd, fn, tm, ps, a, b, d, nt⟩
def gC : List Nat → W → W
 | [], K => K
 | r :: rs, K => fun h => h.ob.get r = some (.defs false) ∧ gC rs K (h.lL r (.defs true))
def fj (rs : List Nat) : DS := ⟨rs.map .oJ, .off⟩
def kM : Value → W := fun _ _ => False
def xl : List (Nat × W) → Nat → W
 | [], _ => fun _ => False
 | (j, A) :: l, id => bif Nat.beq id j then A else xl l id
def rm (pd : Option Code) (N Rt : W) (X : List (Nat × W)) : W := match pd with
 | none => N
 | some .ret => Rt
 | some (.exit id) => xl X id
 | _ => fun _ => False
def ox (lo : LO) (l : Nat) (K : W) : W := fun h => (∃ st pd, h.ob.get l = some (lo st pd)) ∧ K h
def lz (lo : LO) (l : Nat) (K : W) : W := fun h => ∃ pd, h.ob.get l = some (lo .ready pd) ∧ K (h.lL l (lo .busy pd))
def ga (lo : LO) (l : Nat) (st : LoopState) (pd : Option Code) (b : Bool) (R : Value → W) : W := fun h => (∃ s p, h.ob.get l = some (lo s p)) ∧ R (.bool b) (h.lL l (lo st pd))
def yq (R : Value → W) : CR → AH → Prop := fun r h => match r with
 | .ret v => R v h
 | .aQ _ => False
def Nn (P : Program) (w0 : World) (g : FuncId) (first bI : List Value) (B : LO → Nat → List Value → (Value → W) → W) (E : Value → W) (K : Option Code → W) : W := fun h =>
 ∀ lo : LO, (∀ (l : Nat) (vs : List Value) (R : Value → W) (h : AH), B lo l vs R h → WR P w0 l vs h (yq R)) →
  WF P w0 g (first ++ .func (.yield h.nx) ⟨[]⟩ ⟨[]⟩ :: bI) (h.dY (lo .ready none)) fun r h' => match r with
   | .ret _ => ∃ st pd, h'.ob.get h.nx = some (lo st pd) ∧ Mf st = true ∧ K pd (h'.lL h.nx (lo .exhausted pd))
   | .aQ v => E v h'
def vd (P : Program) (w0 : World) (fv : Value) (B : LO → Nat → List Value → (Value → W) → W) (E : Nat → Value → W) (K : Nat → Option Code → W) : W := match fv with
 | .func (.func g) ⟨first⟩ ⟨bI⟩ => fun h => Nn P w0 g first bI B (E h.nx) (K h.nx) (h.dY (.defs false))
 | _ => fun _ => False
def xa (F : Value → Value → W) : List Value → W
 | [a, b] => F a b
 | _ => fun _ => False
def Gu (σ : Sl) : List Pos → List Value → Sl
 | [], _ => σ
 | _, [] => σ
 | p :: ps, v :: vs => Gu (σ.up p v) ps vs
section
variable {P : Program} {w0 : World}
theorem BC (h : AH) (o : AO) (k : Nat → AH → Bool) : kY h o k = k h.nx (h.dY o) := M3 h o k
theorem ye (h : AH) (b : Nat) (o : AO) (k : AH → Bool) : fP h b (some o) k = k (h.lL b o) := M1 h b (some o) k
theorem Gv {h : AH} {b : Nat} {r : j7} (hr : h.ob.get b = some (.loop r)) (k : j7 → Bool) : mR h b k = k r := by
 unfold mR; rw [tM hr]
theorem aeX {h : AH} {b : Nat} {t : Bool} (hr : h.ob.get b = some (.defs t)) (k : Bool → Bool) : xM h b k = k t := by
 unfold xM; rw [tM hr]
theorem aeY (g : FuncId) (first bI : List Value) (kf : Nat → List Value → List Value → Bool) (ky : Nat → Bool) : tn (.func (.func g) ⟨first⟩ ⟨bI⟩) kf ky = kf g first bI := rfl
theorem VX : ∀ {ps : List Pos} {vs : List Value} {t : PT} {k : PT → Bool}, ps.length = vs.length → (∀ t' : PT, t'.get = Gu t.get ps vs → k t' = true) → xQ ps vs t k = true
 | [], [], t, k, _, hk => hk t rfl
 | p :: ps, v :: vs, t, k, hl, hk => by
  show PT.gb p t v (fun t => xQ ps vs t k) = true
  rw [PT.lB]
  refine VX (by simpa using hl) fun t' tu => hk t' ?_
  rw [tu, Sl.VK]; rfl
def Np (lo : LO) (l : Nat) (R : Value → W) : PQ := fun x _ d h => d.df = [] ∧ (match x with
 | .normal => ga lo l .ready none true R h
 | .ret => ga lo l .done (some .ret) false R h
 | .exit id => ga lo l .done (some (.exit id)) false R h
 | .aQ _ => False)
def Nq (P : Program) (w0 : World) (lo : LO) (l : Nat) (b : c7) (e : Env) (R : Value → W) : PQ := fun x σ d h => match x with
 | .normal => lz lo l (fun h => dS P w0 b e σ d h (Np lo l R)) h
 | _ => False
theorem aeZ (bF : P.follows .mixedOrders = true) {fn : FuncId} {nt : Nat} {tm : PT} {ps : List Pos} {a b : c7} {Nr : Nat} {lo : LO} (oZ : ∀ st pd, lo st pd = .loop ⟨st, pd, fn, tm, ps, a, b, Nr, nt⟩) {l : Nat} {vs : List Value} {h : AH} {R : Value → W}
 (hl : ∃ st pd, h.ob.get l = some (lo st pd)) (hlen : ps.length = vs.length) (H : dS P w0 a ⟨fn, nt, some l⟩ (Gu tm.get ps vs) ⟨[], .off⟩ h (Nq P w0 lo l b ⟨fn, nt, some l⟩ R)) : WR P w0 l vs h (yq R) := by
 obtain ⟨st, pd, hl⟩ := hl
 rw [oZ] at hl
 show rK P w0 l vs h (fun r h => decide (yq R r h))
 refine TE (rec := fa P w0) (Bw P w0) ?_
 show mR h l (fun r => xQ r.params vs r.tm fun tm => fa P w0 (.code r.assign ⟨r.fn, r.nt, some l⟩ ⟨tm, [], .off, h⟩ (Lv (fa P w0) l r _))) = true
 rw [Gv hl]
 refine VX hlen fun t' tu => ?_
 refine lg P w0 (dk.wa (fun x s hx => ?_) (F8 bF a H t' tu))
 have fm := of_decide_eq_true hx
 cases x with
 | normal =>
  obtain ⟨tR, h1, h2⟩ : lz lo l (fun h => dS P w0 b ⟨fn, nt, some l⟩ s.tm.get ⟨s.df, s.rc⟩ h (Np lo l R)) s.h := fm
  rw [oZ] at h1
  show mR s.h l (fun r => iff (isReady r.state) (fP s.h l (some (.loop (r.iL .busy r.dC))) fun h => fa P w0 (.code b ⟨fn, nt, some l⟩ ⟨s.tm, s.df, s.rc, h⟩ (Fk l _)))) = true
  rw [Gv h1]
  show iff true (fP s.h l (some (.loop ⟨.busy, tR, fn, tm, ps, a, b, Nr, nt⟩)) fun h => fa P w0 (.code b ⟨fn, nt, some l⟩ ⟨s.tm, s.df, s.rc, h⟩ (Fk l fun r h => decide (yq R r h)))) = true
  rw [eJ, ye, ← oZ]
  refine lg P w0 (dk.wa (fun x s hx => ?_) (F8 bF b h2 s.tm rfl))
  obtain ⟨hd, fm⟩ := of_decide_eq_true hx
  have FR : s.df = [] := hd
  show tt s.df _ = true
  rw [FR]
  have fin : ∀ (j : Option Code) (st : LoopState) (b' : Bool), ga lo l st j b' R s.h → AR l s.h (fun r h => decide (yq R r h)) j st b' = true := fun j st b' hf => by
   obtain ⟨⟨s1, p1, h3⟩, h4⟩ := hf
   rw [oZ] at h3
   show mR s.h l _ = true
   rw [Gv h3]
   show fP s.h l (some (.loop ⟨st, j, fn, tm, ps, a, b, Nr, nt⟩)) _ = true
   rw [ye, ← oZ]
   exact decide_eq_true h4
  cases x with
  | normal => exact fin _ _ _ fm
  | ret => exact fin _ _ _ fm
  | exit id => exact fin _ _ _ fm
  | aQ v => exact fm.elim
 | exit id => exact False.elim fm
 | ret => exact False.elim fm
 | aQ v => exact False.elim fm
def Ns (Q : PQ) (σ : Sl) (d : DS) (pd : Option Code) (h : AH) : Prop := match pd with
 | none => Q .normal σ d h
 | some .ret => Q .ret σ d h
 | some (.exit id) => Q (.exit id) σ d h
 | _ => False
theorem ae0 {e : Env} {tm : PT} {df : List ef} {rc : Rc} {ps : List Pos} {a b : c7} {g : FuncId} {first bI : List Value} {h : AH} {dl : Nat} {B : LO → Nat → List Value → (Value → W) → W} {E : Value → W} {K : Option Code → W} {Q : PQ} {s : St} (iq : s.tm = tm) (jN : s.rc = rc)
 (H : Nn P w0 g first bI B E K h) (hB : ∀ lo : LO, (∀ st pd, lo st pd = .loop ⟨st, pd, e.fn, tm, ps, a, b, dl, e.nt⟩) → ∀ (l : Nat) (vs : List Value) (R : Value → W) (h : AH), B lo l vs R h → WR P w0 l vs h (yq R))
 (hE : ∀ v h, E v h → Q (.aQ v) tm.get ⟨df, rc⟩ h) (hK : ∀ pd h, K pd h → Ns Q tm.get ⟨df, rc⟩ pd h) : AE (fa P w0) e s (fun x s => decide (Q x s.tm.get ⟨s.df, s.rc⟩ s.h)) ps a b g first bI h dl df = true := by
 show kY h (.loop ⟨.ready, none, e.fn, s.tm, ps, a, b, dl, e.nt⟩) (fun l h => gM first (.func (.yield l) ⟨[]⟩ ⟨[]⟩ :: bI) fun args => fa P w0 (.call g args h (K9 s df _ l))) = true
 rw [BC, tJ, iq]
 refine lg P w0 (gq.mono (fun r h' hr => ?_) (H (fun st pd => .loop ⟨st, pd, e.fn, tm, ps, a, b, dl, e.nt⟩) (hB _ fun _ _ => rfl)))
 have mM := of_decide_eq_true hr
 cases r with
 | ret v =>
  obtain ⟨st, pd, h1, h2, h3⟩ := mM
  show mR h' h.nx _ = true
  rw [Gv h1]
  show iff (Mf st) (fP h' h.nx (some (.loop ⟨.exhausted, pd, e.fn, tm, ps, a, b, dl, e.nt⟩)) _) = true
  rw [h2, eJ, ye]
  have := hK pd _ h3
  unfold Ns at this
  unfold E3
  rw [iq, jN]
  split at this
  · exact decide_eq_true this
  · exact decide_eq_true this
  · exact decide_eq_true this
  · exact this.elim
 | aQ v =>
  show decide (Q (.aQ v) s.tm.get ⟨df, s.rc⟩ h') = true
  rw [iq, jN]
  exact decide_eq_true (hE v h' mM)
theorem ae1 {Q : PQ} {σ : Sl} {d : DS} {N Rt : W} {X : List (Nat × W)} (hN : ∀ h, N h → Q .normal σ d h) (hR : ∀ h, Rt h → Q .ret σ d h) (hX : ∀ p ∈ X, ∀ h, p.2 h → Q (.exit p.1) σ d h) (pd : Option Code) (h : AH) (H : rm pd N Rt X h) : Ns Q σ d pd h := by
 unfold rm at H
 split at H
 · exact hN _ H
 · exact hR _ H
 · rename_i id
   show Q (.exit id) σ d h
   induction X with
   | nil => exact H.elim
   | cons p X ih =>
    obtain ⟨j, A⟩ := p
    have H' : (bif Nat.beq id j then A else xl X id) h := H
    cases hj : Nat.beq id j with
    | true =>
     rw [hj] at H'
     have := Nat.eq_of_beq_eq_true hj
     subst this
     exact hX _ List.mem_cons_self _ H'
    | false =>
     rw [hj] at H'
     exact ih (fun p hp => hX p (List.mem_cons_of_mem _ hp)) H'
 · exact H.elim
def Nt (Q : PQ) (σ : Sl) (d : DS) : List (Nat × W) → Prop
 | [] => True
 | (j, A) :: l => (∀ h, A h → Q (.exit j) σ d h) ∧ Nt Q σ d l
theorem VY {Q : PQ} {σ : Sl} {d : DS} : ∀ {X : List (Nat × W)}, Nt Q σ d X → ∀ p ∈ X, ∀ h, p.2 h → Q (.exit p.1) σ d h
 | [], _, p, hp => by cases hp
 | (j, A) :: l, ⟨h1, h2⟩, p, hp => by
  rcases List.mem_cons.1 hp with rfl | hp
  · exact h1
  · exact VY h2 p hp
theorem Eb (bF : P.follows .mixedOrders = true) {fn : FuncId} {nt : Nat} {f : dB} {ps : List Pos} {a b : c7} {σ : Sl} {rs : List Nat} {h : AH} {Q : PQ} {fv : Value} (B : LO → Nat → List Value → (Value → W) → W) (E : Nat → Value → W) (N Rt : Nat → W) (X : Nat → List (Nat × W))
 (hf : dR σ f = fv) (H : vd P w0 fv B E (fun r pd => rm pd (N r) (Rt r) (X r)) h) (hE : ∀ r v h, E r v h → Q (.aQ v) σ (fj (r :: rs)) h)
 (hN : ∀ r h, N r h → Q .normal σ (fj (r :: rs)) h) (hR : ∀ r h, Rt r h → Q .ret σ (fj (r :: rs)) h) (hX : ∀ r, Nt Q σ (fj (r :: rs)) (X r))
 (hB : ∀ (lo : LO) (_ : isL lo) (l : Nat) (vs : List Value) (R : Value → W) (h : AH), B lo l vs R h → (∃ st pd, h.ob.get l = some (lo st pd)) ∧ ps.length = vs.length ∧ dS P w0 a ⟨fn, nt, some l⟩ (Gu σ ps vs) ⟨[], .off⟩ h (Nq P w0 lo l b ⟨fn, nt, some l⟩ R)) :
 dS P w0 (.l4 f ps a b) ⟨fn, nt, none⟩ σ (fj rs) h Q := by
 intro tm dP
 subst dP
 refine qn bF ?_
 show rN f tm (fun fv => tn fv (fun g first bI => kY h (.defs false) fun r h => AE (fa P w0) ⟨fn, nt, none⟩ ⟨tm, rs.map .oJ, .off, _⟩ _ ps a b g first bI h r (.oJ r :: rs.map .oJ)) mf) = true
 rw [Mq, MS, hf]
 unfold vd at H
 split at H
 · rename_i g first bI
   rw [aeY, BC]
   refine ae0 rfl rfl H (fun lo oZ l vs R h hb => ?_) (fun v h hv => hE _ v h hv) (fun pd h hk => ae1 (hN _) (hR _) (VY (hX _)) pd h hk)
   obtain ⟨h1, h2, h3⟩ := hB lo ⟨_, _, _, _, _, _, _, oZ⟩ l vs R h hb
   exact aeZ bF oZ h1 h2 h3
 · exact H.elim
theorem Ed {lo : LO} {l : Nat} {K : W} {h : AH} (H : ox lo l K h) : (∃ st pd, h.ob.get l = some (lo st pd)) ∧ K h := H
theorem ae2 {lo : LO} {l : Nat} {K K' : W} {h : AH} (H : lz lo l K h) (hk : ∀ h, K h → K' h) : lz lo l K' h := by
 obtain ⟨pd, h1, h2⟩ := H
 exact ⟨pd, h1, hk _ h2⟩
theorem Ee {lo : LO} {l : Nat} {K : W} {b : c7} {e : Env} {R : Value → W} {σ : Sl} {d : DS} {h : AH} (H : lz lo l K h) (hk : ∀ h, K h → dS P w0 b e σ d h (Np lo l R)) : Nq P w0 lo l b e R .normal σ d h := ae2 H hk
theorem Ec {F : Value → Value → W} {vs : List Value} {h : AH} (H : xa F vs h) : ∃ a b, vs = [a, b] ∧ F a b h := by
 unfold xa at H; split at H
 · exact ⟨_, _, rfl, H⟩
 · exact H.elim
theorem Nu {K : Option Value → AH → Prop} {m : Option Value} : ∀ {rs : List Nat} {h : AH}, gC rs (K m) h → WL P w0 (rs.map .oJ) m h K
 | [], h, H => H
 | r :: rs, h, H => by
  obtain ⟨h1, h2⟩ : h.ob.get r = some (.defs false) ∧ gC rs (K m) (h.lL r (.defs true)) := H
  have ih := Nu (rs := rs) h2
  refine Li (rec := fa P w0) (Bw P w0) ?_
  show xM h r (fun t => iff (!t) (fP h r (some (.defs true)) fun h => fa P w0 (.leave (rs.map .oJ) m h _))) = true
  rw [aeX h1]
  rw [Bool.not_false, eJ, ye]
  exact MV (fun m h hm => decide_eq_true hm) ih
theorem sV {Q : PQ} {σ : Sl} {d : DS} {h : AH} (res : List kQ) (R : CR → AH → Prop) (rs : List Nat) (hQ : Q .ret σ d h = By P w0 res R .ret σ (fj rs) h) (H : gC rs (fun h => lK res σ h fun vs => R (.ret (wb vs)) h) h) : Q .ret σ d h := by
 rw [hQ]
 exact Nu (m := none) (K := fun m h => match m with | none => lK res σ h fun vs => R (.ret (wb vs)) h | some v => R (.aQ v) h) H
theorem lX {Q : PQ} {σ : Sl} {d : DS} {h : AH} {v : Value} (res : List kQ) (R : CR → AH → Prop) (rs : List Nat) (hQ : Q (.aQ v) σ d h = By P w0 res R (.aQ v) σ (fj rs) h) (H : gC rs (fun h => R (.aQ v) h) h) : Q (.aQ v) σ d h := by
 rw [hQ]
 exact Nu (m := some v) (K := fun m h => match m with | none => res = [] ∧ R (.ret (.tuple ⟨[]⟩)) h | some v => R (.aQ v) h) H
def cE (rs : List Nat) (E : Value → W) : Value → W := fun v => gC rs (E v)
section
variable {e : Env} {σ : Sl} {h : AH} {Q : PQ} {a b c : c7}
theorem nA {α : Type} (U : List (Pos × Value)) (M : α → List (Pos × Value)) (π : Sl → α) (J : α → List Nat → W) {rs : List Nat} (hM : ∀ σ, qp σ (M (π σ))) (hb : ∀ (x : α) (rs : List Nat) (σ : Sl) (h : AH), J x rs h → dS P w0 b e ((σ.sf U).sf (M x)) (fj rs) h Q)
 (ha : dS P w0 a e σ (fj rs) h (vZ (fun σ d' h => ∃ si, d' = fj si ∧ qp σ U ∧ J (π σ) si h) Q)) : dS P w0 (.seq a b) e σ (fj rs) h Q := by
 refine MU a (fun x σ d' h hx => ?_) ha
 cases x with
 | normal =>
  obtain ⟨si, rfl, h2, h3⟩ := hx
  have := hb (π σ) si σ h h3
  rwa [wh h2, wh (hM σ)] at this
 | _ => exact hx
theorem Je (bF : P.follows .mixedOrders = true) {α : Type} (U : List (Pos × Value)) (M : α → List (Pos × Value)) (π : Sl → α) (F : (α × List Nat → W) → α × List Nat → W) (hM : ∀ σ, qp σ (M (π σ)))
 (hF : ∀ (k : α × List Nat → W) (x : α) (rs : List Nat) (σ : Sl) (h : AH), F k (x, rs) h → dS P w0 c e ((σ.sf U).sf (M x)) (fj rs) h (vZ (fun σ d' h => ∃ si, d' = fj si ∧ qp σ U ∧ k (π σ, si) h) Q)) {x : α} {rs : List Nat} (hx : π σ = x) (hU : qp σ U) (H : LP F (x, rs) h) : dS P w0 (.loop c) e σ (fj rs) h Q := by
 subst hx
 obtain ⟨n, H⟩ := H
 have key : ∀ n rs σ h, qp σ U → jX F n (π σ, rs) h → WC P w0 (.loop c) e σ (fj rs) h Q := by
  intro n
  induction n with
  | zero => intro rs σ h _ H; exact H.elim
  | succ n ih =>
   intro rs σ h hU H
   refine VP bF ?_
   have h1 := hF (jX F n) (π σ) rs σ h H
   rw [wh hU, wh (hM σ)] at h1
   refine MU c (fun x σ d' h hx => ?_) h1
   cases x with
   | normal =>
    obtain ⟨si, rfl, h2, h3⟩ := hx
    exact ih si σ h h2 h3
   | _ => exact hx
 exact key n rs σ h hU H
end
end
end
end Go.Ve
namespace Go.Ve
open Go.RowKit
noncomputable section
def AH.kill (h : AH) (b : Nat) : AH := ⟨h.nx, h.ob.set b none⟩
theorem AH.Nv (h : AH) (b f : Nat) : (h.kill b).ob.get f = if f = b then none else h.ob.get f := by
 show (h.ob.set b none).get f = _
 rw [NT.cZ]
theorem AH.VZ {h : AH} (H : h.Ok) (b : Nat) : (h.kill b).Ok := fun f hf => by
 rw [AH.Nv]; split
 · rfl
 · exact H f hf
theorem V0 (h : AH) (b : Nat) (k : AH → Bool) : fP h b none k = k (h.kill b) := M1 h b none k
section
variable {h : AH} {R : Value → AH → Prop}
theorem ae3 {zero l : List Value} {ps : List (Nat × Nat)} {vs : List Value} (hf : ∀ k : List Value → Bool, iM zero ps vs k = k l) : WP (.build zero ps) vs h R ↔ R (.agg ⟨l⟩) h := cC fun k => hf _
theorem ae4 {ty : TypeId} {n : Nat} {cells l : List Value} {ps : List (Nat × Nat)} {vs : List Value} (hf : ∀ k : List Value → Bool, iM cells ps vs k = k l) (ha : cP l = true) :
 WP (.buildSlice ty n cells ps) vs h R ↔ R (dL h.nx 0 n n) (h.new ty l) := cC fun k => by
 show iM cells ps vs (fun l => jR h ty l fun b h => k (.slice (some ⟨b, 0, none⟩) n n) h) = _
 rw [hf, we h ty ha]
theorem ae5 (n : Nat) (zero : List Value) (k : List Value → Bool) : xm n zero k = k ((List.replicate n zero).flatten) := by
 induction n generalizing k with
 | zero => rfl
 | succ n ih =>
  show xm n zero (fun l => gM zero l k) = _
  rw [ih, tJ]; rfl
theorem V2 {ty : TypeId} {sz l c : Nat} {zero : List Value} {k1 k2 : IntKind} (Gw : l ≤ c) (hc : c ≤ 65536) (hz : zero.length = sz) (ha : cP ((List.replicate c zero).flatten) = true) :
 WP (.mkSlice ty sz zero) [.int k1 (l : Int), .int k2 (c : Int)] h R ↔ R (dL h.nx 0 l c) (h.new ty (List.replicate c zero).flatten) := cC fun k => by
 show iff (Nat.ble l c && Nat.ble c 65536 && ia zero sz) (xm c zero fun cs => jR h ty cs fun b h => k (.slice (some ⟨b, 0, none⟩) l c) h) = _
 have e : (Nat.ble l c && Nat.ble c 65536 && ia zero sz) = true := by
  rw [tO]; simp only [Bool.and_eq_true, Nat.ble_eq, decide_eq_true_eq]; exact ⟨⟨Gw, hc⟩, hz⟩
 rw [e, eJ, ae5, we h ty ha]
theorem ae6 (sz : Nat) (k : Nat → List Value → Bool) {n c : Nat} : k9 h sz (.slice none n c) k = k 0 [] := rfl
theorem ae7 {sz b o n c : Nat} {l : List Value} (hr : h.bE b o l) (hl : l.length = n * sz) (hn : 0 < n * sz) (k : Nat → List Value → Bool) : k9 h sz (dL b o n c) k = k n l := by
 show (bif Nat.beq n 0 then k 0 [] else jQ h b o (Nat.mul n sz) fun l => k n l) = _
 have h0 : n ≠ 0 := fun e => by rw [e] at hn; omega
 rw [eP h0]
 exact Gg hr hl hn _
theorem ae8 {sz b o c : Nat} (k : Nat → List Value → Bool) : k9 h sz (dL b o 0 c) k = k 0 [] := rfl
section
variable {ty : TypeId} {sz n : Nat} {zero xs : List Value} {x : Value}
theorem wi (hx : ∀ k : Nat → List Value → Bool, k9 h sz x k = k n xs) (h1 : 1 ≤ sz) (hz : zero.length = sz) (s : Value) (k : KV) :
 (Prim.append ty sz zero).ev [s, x] h k = jU s (xR h ty sz n xs k) (xS h ty sz n xs k) := by
 show k9 h sz x (fun n xs => iff (Nat.ble 1 sz && ia zero sz) (jU s (xR h ty sz n xs k) (xS h ty sz n xs k))) = _
 rw [hx]
 have e : (Nat.ble 1 sz && ia zero sz) = true := by rw [tO]; simp only [Bool.and_eq_true, Nat.ble_eq, decide_eq_true_eq]; exact ⟨h1, hz⟩
 rw [e, eJ]
theorem V3 (hx : ∀ k : Nat → List Value → Bool, k9 h sz x k = k 0 xs) (h1 : 1 ≤ sz) (hz : zero.length = sz) {a : Addr} {len cap : Nat} :
 WP (.append ty sz zero) [.slice (some a) len cap, x] h R ↔ R (.slice (some ⟨a.block, a.off, none⟩) len cap) h := cC fun k => by
 rw [wi hx h1 hz]; cases a; rfl
theorem ae9 (hx : ∀ k : Nat → List Value → Bool, k9 h sz x k = k 0 xs) (h1 : 1 ≤ sz) (hz : zero.length = sz) {len cap : Nat} :
 WP (.append ty sz zero) [.slice none len cap, x] h R ↔ R bN h := cC fun k => by
 rw [wi hx h1 hz]; rfl
theorem afa (hx : ∀ k : Nat → List Value → Bool, k9 h sz x k = k n xs) (h1 : 1 ≤ sz) (hz : zero.length = sz) (hn : 0 < n) (hb : n ≤ 1048576) (ha : cP xs = true) {len cap : Nat} :
 WP (.append ty sz zero) [.slice none len cap, x] h R ↔ R (dL h.nx 0 n (aT + sz)) (h.new ty xs) := cC fun k => by
 rw [wi hx h1 hz]
 show (bif Nat.beq n 0 then k (.slice none 0 0) h else iff (Nat.ble n 1048576) (jR h ty xs fun b h => fN (Nat.add aT sz) fun cp => k (.slice (some ⟨b, 0, none⟩) n cp) h)) = _
 have e : Nat.ble n 1048576 = true := by rw [Nat.ble_eq]; exact hb
 rw [eP (show n ≠ 0 by omega), e]
 show jR h ty xs _ = _
 rw [we h ty ha, bO]; rfl
def AH.grown (h : AH) (b o : Nat) (ty : TypeId) (c : NT Value) (at_ du : Nat) (xs : List Value) : AH := (h.kill b).dY (.cells o du ty true (iS c at_ xs))
theorem afb (hx : ∀ k : Nat → List Value → Bool, k9 h sz x k = k n xs) (h1 : 1 ≤ sz) (hz : zero.length = sz) (hn : 0 < n) {b o len lo hi : Nat} {c : NT Value} {s : Option Nat} (hb : len + n ≤ 1048576) (ha : cP xs = true)
 (hg : h.ob.get b = some (.cells lo hi ty true c)) (oZ : lo ≤ o) (Nw : o + len * sz ≤ hi) :
 WP (.append ty sz zero) [.slice (some ⟨b, o, s⟩) len (aT + sz), x] h R ↔ R (dL h.nx o (len + n) (aT + sz)) (h.grown b o ty c (o + len * sz) (o + (len + n) * sz) xs) := cC fun k => by
 rw [wi hx h1 hz]
 show (bif Nat.beq n 0 then k (.slice (some ⟨b, o, none⟩) len (aT + sz)) h else fN (Nat.add len n) fun gR => iff (Nat.ble gR 1048576) (bif Nat.ble aT (aT + sz) then Fo h ty sz xs b o len (aT + sz) gR k else _)) = _
 have e : Nat.ble (len + n) 1048576 = true := by rw [Nat.ble_eq]; exact hb
 have e2 : Nat.ble aT (aT + sz) = true := by rw [Nat.ble_eq]; omega
 rw [eP (show n ≠ 0 by omega)]
 simp only [cond_false]
 rw [bO, show Nat.add len n = len + n from rfl, e, eJ, e2]
 simp only [cond_true]
 unfold Fo
 have e3 : Nat.beq (aT + sz) (Nat.add aT sz) = true := by rw [Nat.beq_eq]; rfl
 rw [e3, eJ]
 unfold kZ
 rw [tM hg]
 show iff (true && Nat.beq ty ty && Nat.ble lo o && Nat.ble (Nat.add o (Nat.mul len sz)) hi && cP xs) _ = _
 have e4 : (true && Nat.beq ty ty && Nat.ble lo o && Nat.ble (Nat.add o (Nat.mul len sz)) hi && cP xs) = true := by
  simp only [Bool.and_eq_true, Nat.ble_eq, Nat.beq_eq]; exact ⟨⟨⟨⟨trivial, trivial⟩, oZ⟩, Nw⟩, ha⟩
 rw [e4, eJ, V0, bO, Gb, bO, M3]
 rfl
theorem afc (hx : ∀ k : Nat → List Value → Bool, k9 h sz x k = k n xs) (h1 : 1 ≤ sz) (hz : zero.length = sz) (hn : 0 < n) {b o len cap : Nat} {s : Option Nat} {old : List Value} (hb : len + n ≤ 1048576) (hc : cap < len + n) (ha : cP (old ++ xs) = true)
 (hl : 0 < len) (hr : h.bE b o old) (ho : old.length = len * sz) :
 WP (.append ty sz zero) [.slice (some ⟨b, o, s⟩) len cap, x] h R ↔ R (dL h.nx 0 (len + n) (aT + sz)) (h.new ty (old ++ xs)) := cC fun k => by
 rw [wi hx h1 hz]
 show (bif Nat.beq n 0 then k (.slice (some ⟨b, o, none⟩) len cap) h else fN (Nat.add len n) fun gR => iff (Nat.ble gR 1048576) (bif Nat.ble aT cap then _ else bif Nat.ble gR cap then _ else bif Nat.beq len 0 then _ else jQ h b o (Nat.mul len sz) fun old => gM old xs fun l => jR h ty l fun b' h => fN (Nat.add aT sz) fun cp => k (.slice (some ⟨b', 0, none⟩) gR cp) h)) = _
 have e : Nat.ble (len + n) 1048576 = true := by rw [Nat.ble_eq]; exact hb
 have e2 : Nat.ble aT cap = false := by
  have : ¬ aT ≤ cap := by unfold aT; omega
  cases hh : Nat.ble aT cap with
  | false => rfl
  | true => rw [Nat.ble_eq] at hh; exact absurd hh this
 have e3 : Nat.ble (len + n) cap = false := by
  cases hh : Nat.ble (len + n) cap with
  | false => rfl
  | true => rw [Nat.ble_eq] at hh; omega
 rw [eP (show n ≠ 0 by omega)]
 simp only [cond_false]
 rw [bO, show Nat.add len n = len + n from rfl, e, eJ, e2, e3, eP (show len ≠ 0 by omega)]
 simp only [cond_false]
 have mW : 0 < len * sz := Nat.mul_pos hl h1
 rw [show Nat.mul len sz = len * sz from rfl, Gg hr ho mW, tJ, we h ty ha, bO]
 rfl
end
theorem afd : WP .mkMap [] h R ↔ R (.map (some h.nx)) (h.dY (.map [] 0)) := cC fun k => by
 show kY h (.map [] 0) (fun b h => k (.map (some b)) h) = _
 rw [BC]
end
end
end Go.Ve
namespace Go.Ve
open Go.RowKit
open Classical
noncomputable section
def AH.o3 (h : AH) (b : Nat) : Nat → Nat → Option (List Value)
 | _, 0 => some []
 | o, n + 1 => match h.rd b o with
  | none => none
  | some v => match h.o3 b (o + 1) n with
   | none => none
   | some l => some (v :: l)
theorem AH.V4 {h : AH} {b : Nat} : ∀ {n o : Nat} {l : List Value}, h.o3 b o n = some l → l.length = n ∧ h.bE b o l
 | 0, o, l, e => by cases e; exact ⟨rfl, AH.MY h b o⟩
 | n + 1, o, l, e => by
  unfold AH.o3 at e
  split at e
  · cases e
  · rename_i v hv
    split at e
    · cases e
    · rename_i m hm
      cases e
      obtain ⟨h1, h2⟩ := AH.V4 hm
      exact ⟨by simp [h1], AH.VS.2 ⟨hv, h2⟩⟩
theorem AH.V5 {h : AH} {b : Nat} : ∀ {l : List Value} {n o : Nat}, l.length = n → h.bE b o l → h.o3 b o n = some l
 | [], n, o, hn, _ => by subst hn; rfl
 | v :: l, n, o, hn, hr => by
  subst hn
  obtain ⟨h1, h2⟩ := AH.VS.1 hr
  show (match h.rd b o with | none => none | some v => match h.o3 b (o + 1) l.length with | none => none | some l => some (v :: l)) = _
  rw [h1, AH.V5 rfl h2]
theorem AH.Nx (h : AH) (b o : Nat) : h.o3 b o 0 = some [] := rfl
theorem AH.Ny (h : AH) (b o n : Nat) : h.o3 b o (n + 1) = (h.rd b o).bind fun v => (h.o3 b (o + 1) n).map (v :: ·) := by
 show (match h.rd b o with | none => none | some v => match h.o3 b (o + 1) n with | none => none | some l => some (v :: l)) = _
 cases h.rd b o with
 | none => rfl
 | some v => cases h.o3 b (o + 1) n <;> rfl
theorem AH.Gx (h : AH) (ty : TypeId) (l : List Value) (b o n : Nat) : (h.new ty l).can b o n ↔ (if b = h.nx then o + n ≤ l.length else h.can b o n) := by
 by_cases e : b = h.nx
 · subst e
   rw [if_pos rfl]
   constructor
   · rintro ⟨lo, hi, cf, c, h1, h2, h3⟩
     have gK : (h.ob.set h.nx (some (.cells 0 l.length ty true (iS .e 0 l)))).get h.nx = some (.cells lo hi cf true c) := h1
     rw [NT.cZ, if_pos rfl] at gK
     cases gK; exact h3
   · exact fun hn => AH.MX h ty l hn
 · rw [if_neg e]
   constructor
   · rintro ⟨lo, hi, cf, c, h1, h2, h3⟩
     have gK : (h.ob.set h.nx (some (.cells 0 l.length ty true (iS .e 0 l)))).get b = some (.cells lo hi cf true c) := h1
     rw [NT.cZ, if_neg e] at gK
     exact ⟨lo, hi, cf, c, gK, h2, h3⟩
   · exact fun H => AH.aeK ty l H e
theorem AH.Nz (h : AH) (b o : Nat) (l : List Value) (b' o' n' : Nat) : (h.wr b o l).can b' o' n' ↔ h.can b' o' n' := by
 refine ⟨fun H => ?_, AH.Gd⟩
 by_cases e : b' = b
 · subst e
   obtain ⟨lo, hi, ty, c, h1, h2, h3⟩ := H
   unfold AH.wr at h1
   split at h1
   · rename_i tN du cf l7 c' heq
     have gK : (h.ob.set b' (some (.cells tN du cf l7 (iS c' o l)))).get b' = some (.cells lo hi ty true c) := h1
     rw [NT.cZ, if_pos rfl] at gK
     cases gK
     exact ⟨lo, hi, ty, c', heq, h2, h3⟩
   · exact ⟨lo, hi, ty, c, h1, h2, h3⟩
 · obtain ⟨lo, hi, ty, c, h1, h2, h3⟩ := H
   rw [AH.tK h e] at h1
   exact ⟨lo, hi, ty, c, h1, h2, h3⟩
theorem AH.NA {h : AH} {b o : Nat} {l : List Value} (H : h.can b o l.length) (b' o' : Nat) : (h.wr b o l).rd b' o' = if b' = b ∧ o ≤ o' ∧ o' < o + l.length then l[o' - o]? else h.rd b' o' := AH.tL H (Nat.le_refl _) b' o'
section
variable {h : AH} {R : Value → AH → Prop}
theorem NB {b o : Nat} {s : Option Nat} : WP .ay [.pointer (some ⟨b, o, s⟩)] h R ↔ ∃ v, h.rd b o = some v ∧ R v h := by
 constructor
 · intro H
   have e : qc h b o (fun v => decide (R v h)) = true := H (fun v h => decide (R v h)) fun _ _ hr => decide_eq_true hr
   obtain ⟨lo, hi, ty, rw, c, v, h1, h2, h3, h4, h5⟩ := Fb e
   refine ⟨v, ?_, of_decide_eq_true h5⟩
   unfold AH.rd
   rw [h1]
   show (if lo ≤ o ∧ o + 1 ≤ hi then c.get o else none) = some v
   rw [if_pos ⟨h2, h3⟩, h4]
 · rintro ⟨v, h1, h2⟩; exact (Gk h1).2 h2
theorem lM {b o n : Nat} {s : Option Nat} (h0 : 0 < n) : WP (.bL n) [.pointer (some ⟨b, o, s⟩)] h R ↔ ∃ l, h.o3 b o n = some l ∧ R (.agg ⟨l⟩) h := by
 constructor
 · intro H
   have e : jQ h b o n (fun l => decide (R (.agg ⟨l⟩) h)) = true := H (fun v h => decide (R v h)) fun _ _ hr => decide_eq_true hr
   obtain ⟨lo, hi, ty, rw, c, l, h1, h2, h3, h4, h5, h6⟩ := td e
   refine ⟨l, AH.V5 h4 fun i v hv => ?_, of_decide_eq_true h6⟩
   have du : i < n := by have := (List.getElem?_eq_some_iff.1 hv).1; omega
   unfold AH.rd
   rw [h1]
   show (if lo ≤ o + i ∧ o + i + 1 ≤ hi then c.get (o + i) else none) = some v
   rw [if_pos ⟨by omega, by omega⟩, h5 i v hv]
 · rintro ⟨l, h1, h2⟩
   obtain ⟨h3, h4⟩ := AH.V4 h1
   exact (Gl h4 h3 h0).2 h2
theorem NC {b o n : Nat} {s : Option Nat} {v : Value} : WP (.store n) [.pointer (some ⟨b, o, s⟩), v] h R ↔ (cellsOf v).length = n ∧ cP (cellsOf v) = true ∧ h.can b o n ∧ R undef (h.wr b o (cellsOf v)) := by
 constructor
 · intro H
   have e : iff (ia (cellsOf v) n) (oT h b o (cellsOf v) fun h => decide (R undef h)) = true := H (fun v h => decide (R v h)) fun _ _ hr => decide_eq_true hr
   obtain ⟨h1, h2⟩ := bT e
   rw [tO, decide_eq_true_eq] at h1
   have hc : h.can b o (cellsOf v).length ∧ cP (cellsOf v) = true := by
    obtain ⟨lo, hi, ty, rw, c, g1, g2⟩ := r9 (show kZ h b _ = true from h2)
    obtain ⟨g3, g4⟩ := bT g2
    simp only [Bool.and_eq_true] at g3
    obtain ⟨⟨⟨r1, r2⟩, r3⟩, r4⟩ := g3
    subst r1
    exact ⟨⟨lo, hi, ty, c, g1, Nat.le_of_ble_eq_true r2, Nat.le_of_ble_eq_true r3⟩, r4⟩
   rw [Gh hc.1 hc.2] at h2
   exact ⟨h1, hc.2, h1 ▸ hc.1, of_decide_eq_true h2⟩
 · rintro ⟨h1, h2, h3, h4⟩
   exact (Gm h3 h1 h2).2 h4
theorem Gy {l : List Value} {i : Nat} : WP (.extract i) [.tuple ⟨l⟩] h R ↔ ∃ v, l[i]? = some v ∧ R v h := by
 constructor
 · intro H
   have e : nW l i (fun v => decide (R v h)) = true := H (fun v h => decide (R v h)) fun _ _ hr => decide_eq_true hr
   cases hv : l[i]? with
   | some v => rw [Gn hv] at e; exact ⟨v, rfl, of_decide_eq_true e⟩
   | none =>
    exfalso
    clear H
    induction l generalizing i with
    | nil => cases e
    | cons x l ih => cases i with
     | zero => simp at hv
     | succ i => exact ih (show nW l i _ = true from e) (by simpa using hv)
 · rintro ⟨v, h1, h2⟩; exact (gT h1).2 h2
theorem ND {l : List Value} {i : Nat} : WP (.Kw i) [.agg ⟨l⟩] h R ↔ ∃ v, l[i]? = some v ∧ R v h :=
 (show WP (.Kw i) [.agg ⟨l⟩] h R ↔ WP (.extract i) [.tuple ⟨l⟩] h R from Iff.rfl).trans Gy
end
theorem NF (k : IntKind) (n : Int) : eH (.int k n) = true := rfl
theorem NG (b : Bool) : eH (.bool b) = true := rfl
theorem NH (s : ByteArray) : eH (.string s) = true := rfl
theorem NI (a : Option Addr) : eH (.pointer a) = true := rfl
theorem NJ (a : Option Addr) (n c : Nat) : eH (.slice a n c) = true := rfl
theorem NK (a : Option Nat) : eH (.map a) = true := rfl
theorem NL (f : Fn) (a b : Array Value) : eH (.func f a b) = true := rfl
theorem bo (l : List Value) : cellsOf (.agg ⟨l⟩) = l := rfl
theorem bp (k : IntKind) (n : Int) : cellsOf (.int k n) = [.int k n] := rfl
theorem bt (b : Bool) : cellsOf (.bool b) = [.bool b] := rfl
theorem bw (s : ByteArray) : cellsOf (.string s) = [.string s] := rfl
theorem NM (a : Option Addr) : cellsOf (.pointer a) = [.pointer a] := rfl
theorem NN (a : Option Addr) (n c : Nat) : cellsOf (.slice a n c) = [.slice a n c] := rfl
theorem NO (a : Option Nat) : cellsOf (.map a) = [.map a] := rfl
theorem NP (f : Fn) (a b : Array Value) : cellsOf (.func f a b) = [.func f a b] := rfl
theorem lj {v : Value} (h : eH v = true) : cellsOf v = [v] := by
 cases v <;> first | rfl | cases h
theorem NQ : cP [] = true := rfl
theorem sj (v : Value) (l : List Value) : cP (v :: l) = (eH v && cP l) := by
 show (bif eH v then cP l else false) = _
 cases eH v <;> rfl
def kp (l : List Value) (o : Nat) (m : List Value) : List Value := l.take o ++ m ++ l.drop (o + m.length)
def kq : List Value → List (Nat × Nat) → List Value → Option (List Value)
 | l, [], [] => some l
 | l, (o, n) :: ps, v :: vs => if (cellsOf v).length = n ∧ o + n ≤ l.length then kq (kp l o (cellsOf v)) ps vs else none
 | _, _, _ => none
theorem V6 : ∀ {l m : List Value} (_ : m.length ≤ l.length) (k : List Value → Bool), kX l m k = k (m ++ l.drop m.length)
 | [], [], _, k => rfl
 | [], v :: m, h, k => by simp at h
 | x :: l, [], h, k => rfl
 | x :: l, v :: m, h, k => by
  show kX l m (fun l' => k (v :: l')) = _
  rw [V6 (by simpa using h)]; simp
theorem NR : ∀ {l : List Value} {o : Nat} {m : List Value} (_ : o + m.length ≤ l.length) (k : List Value → Bool), nJ l o m k = k (kp l o m)
 | [], 0, [], h, k => rfl
 | [], 0, v :: m, h, k => by simp at h
 | [], o + 1, m, h, k => by simp at h
 | x :: l, 0, m, h, k => by
  show kX (x :: l) m k = _
  rw [V6 (by omega)]; unfold kp; rw [List.take_zero, List.nil_append, Nat.zero_add]
 | x :: l, o + 1, m, h, k => by
  show nJ l o m (fun l' => k (x :: l')) = _
  rw [NR (by simp at h; omega)]
  unfold kp
  rw [show o + 1 + m.length = (o + m.length) + 1 by omega]
  rfl
theorem NS : ∀ {ps : List (Nat × Nat)} {l vs m : List Value} (_ : kq l ps vs = some m) (k : List Value → Bool), iM l ps vs k = k m
 | [], l, [], m, e, k => by cases e; rfl
 | [], l, v :: vs, m, e, k => by cases e
 | (o, n) :: ps, l, [], m, e, k => by cases e
 | (o, n) :: ps, l, v :: vs, m, e, k => by
  unfold kq at e
  split at e
  · rename_i hc
    show (bif ia (cellsOf v) n then nJ l o (cellsOf v) fun l' => iM l' ps vs k else false) = _
    rw [tO, decide_eq_true hc.1]
    simp only [cond_true]
    rw [NR (by rw [hc.1]; exact hc.2), NS e]
  · cases e
def cQ : List Nat → List Value → Bool
 | [], [] => true
 | n :: ns, v :: vs => decide ((cellsOf v).length = n) && cQ ns vs
 | _, _ => false
theorem V7 : ∀ {ss : List Nat} {vs : List Value}, cQ ss vs = true → ss = vs.map fun v => (cellsOf v).length
 | [], [], _ => rfl
 | n :: ns, v :: vs, e => by
  unfold cQ at e
  rw [Bool.and_eq_true, decide_eq_true_eq] at e
  rw [List.map_cons, V7 e.2, e.1]
 | [], _ :: _, e => by cases e
 | _ :: _, [], e => by cases e
section
variable {h : AH} {R : Value → AH → Prop}
theorem Gz {ss : List Nat} {vs : List Value} (hs : cQ ss vs = true) : WP (.cY ss) vs h R ↔ R (.agg ⟨vs.flatMap cellsOf⟩) h := aeU (V7 hs)
theorem gE {zero l : List Value} {ps : List (Nat × Nat)} {vs : List Value} (hf : kq zero ps vs = some l) : WP (.build zero ps) vs h R ↔ R (.agg ⟨l⟩) h := ae3 (NS hf)
theorem afe {ty : TypeId} {n : Nat} {cells l : List Value} {ps : List (Nat × Nat)} {vs : List Value} (hf : kq cells ps vs = some l) (ha : cP l = true) : WP (.buildSlice ty n cells ps) vs h R ↔ R (dL h.nx 0 n n) (h.new ty l) := ae4 (NS hf) ha
end
theorem NU : ∀ {l m : List Value} {k : List Value → Bool}, kX l m k = true → m.length ≤ l.length
 | [], [], k, _ => Nat.le_refl _
 | [], v :: m, k, h => by cases h
 | x :: l, [], k, _ => Nat.zero_le _
 | x :: l, v :: m, k, h => by
  have := NU (show kX l m (fun l' => k (v :: l')) = true from h)
  simpa using this
theorem V8 : ∀ {l : List Value} {o : Nat} {m : List Value} {k : List Value → Bool}, nJ l o m k = true → o + m.length ≤ l.length
 | [], 0, m, k, h => by have := NU (show kX [] m k = true from h); simpa using this
 | [], o + 1, m, k, h => by cases h
 | x :: l, 0, m, k, h => by have := NU (show kX (x :: l) m k = true from h); omega
 | x :: l, o + 1, m, k, h => by
  have := V8 (show nJ l o m (fun l' => k (x :: l')) = true from h)
  simp only [List.length_cons]; omega
theorem V9 : ∀ {ps : List (Nat × Nat)} {l vs : List Value} {k : List Value → Bool}, iM l ps vs k = true → ∃ m, kq l ps vs = some m ∧ k m = true
 | [], l, [], k, h => ⟨l, rfl, h⟩
 | [], l, v :: vs, k, h => by cases h
 | (o, n) :: ps, l, [], k, h => by cases h
 | (o, n) :: ps, l, v :: vs, k, h => by
  have h' : (bif ia (cellsOf v) n then nJ l o (cellsOf v) fun l' => iM l' ps vs k else false) = true := h
  cases hl : ia (cellsOf v) n with
  | false => rw [hl] at h'; cases h'
  | true =>
   rw [hl] at h'
   have h2 : nJ l o (cellsOf v) (fun l' => iM l' ps vs k) = true := h'
   rw [tO, decide_eq_true_eq] at hl
   have h3 := V8 h2
   rw [NR h3] at h2
   obtain ⟨m, h4, h5⟩ := V9 h2
   refine ⟨m, ?_, h5⟩
   unfold kq
   rw [if_pos ⟨hl, by rw [← hl]; exact h3⟩]; exact h4
section
variable {h : AH} {R : Value → AH → Prop}
theorem NV {zero : List Value} {ps : List (Nat × Nat)} {vs : List Value} : WP (.build zero ps) vs h R ↔ ∃ l, kq zero ps vs = some l ∧ R (.agg ⟨l⟩) h := by
 constructor
 · intro H
   obtain ⟨m, h1, h2⟩ := V9 (show iM zero ps vs (fun l => decide (R (.agg ⟨l⟩) h)) = true from H (fun v h => decide (R v h)) fun _ _ hr => decide_eq_true hr)
   exact ⟨m, h1, of_decide_eq_true h2⟩
 · rintro ⟨l, h1, h2⟩; exact (gE h1).2 h2
end
theorem NW {sz : Nat} : ∀ {l : List (List Value)} {i : Nat} {x : List Value}, (∀ x ∈ l, x.length = sz) → l[i]? = some x → ∀ j v, x[j]? = some v → l.flatten[i * sz + j]? = some v
 | [], i, x, _, e, j, v, hv => by simp at e
 | y :: l, 0, x, hs, e, j, v, hv => by
  simp at e; subst e
  have : j < y.length := (List.getElem?_eq_some_iff.1 hv).1
  simp [List.getElem?_append_left this, hv]
 | y :: l, i + 1, x, hs, e, j, v, hv => by
  have h1 := hs y List.mem_cons_self
  have := NW (fun x hx => hs x (List.mem_cons_of_mem _ hx)) (show l[i]? = some x by simpa using e) j v hv
  rw [List.flatten_cons, List.getElem?_append_right (by rw [h1, Nat.add_mul]; omega), h1]
  rw [show (i + 1) * sz + j - sz = i * sz + j by rw [Nat.add_mul]; omega]
  exact this
end
end Go.Ve
