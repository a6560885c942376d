/- Part 12: VEval, part 52: for whatever can be read as plain data there is an abstract heap that stands for it. Condition: the types are plain. And what follows it. -/
import Derived.Test.YteeibihhdldjfaaGreatDoorVeK
import Derived.DataReads
set_option linter.unusedVariables false
set_option linter.unusedSimpArgs false
namespace Go.Ve
open Go.ChangeShapes Go.WideShapes Go.ChangeAt Go.RowKit
section
variable {H : Type} {enc : TypeId × Value → H} {P : Program}
def z8 (P : Program) : Nat → List Field → Nat → Bool
 | o, [], n => o == n
 | o, f :: fs, n => f.offset == o && z8 P (o + P.cellsOf f.type) fs n
def sx (P : Program) : Nat → TypeId → Bool
 | 0, _ => false
 | n + 1, t => match P.underlying t with
  | some .bool => true
  | some (.int _) => true
  | some .string => true
  | some (.slice e) => decide (0 < P.cellsOf e) && sx P n e
  | some (.struct fs) => z8 P 0 fs.toList (P.cellsOf t) && fs.toList.all fun f => sx P n f.type
  | some (.array k e) => (k * P.cellsOf e == P.cellsOf t) && sx P n e
  | _ => false
def wW (P : Program) (W : World) (t : TypeId) (bO : List Value) (d : DataW H) : Prop :=
 ∀ (φ : ak) (h : AH), HR P W φ h W → ∃ φ' h' cs, HR P W φ' h' W ∧ Ext h.nx φ φ' ∧ cJ h h' ∧ LR φ' cs bO ∧ AD P h' t cs d
theorem Up {W : World} {t : TypeId} : ∀ (l : List (List Value × DataW H)), (∀ x ∈ l, wW P W t x.1 x.2) → ∀ (φ : ak) (h : AH), HR P W φ h W →
 ∃ (φ' : ak) (h' : AH) (cn : List (List Value)), HR P W φ' h' W ∧ Ext h.nx φ φ' ∧ cJ h h' ∧ cn.length = l.length ∧ ∀ (i : Nat) (cs : List Value) (x : List Value × DataW H), cn[i]? = some cs → l[i]? = some x → LR φ' cs x.1 ∧ AD P h' t cs x.2 := by
 intro l
 induction l with
 | nil => intro _ φ h R; exact ⟨φ, h, [], R, Ext.refl _ _, cJ.refl _, rfl, fun i cs x h1 => by simp at h1⟩
 | cons x l ih =>
  intro eO φ h R
  obtain ⟨φ1, h1, cs, R1, E1, K1, L1, A1⟩ := eO x List.mem_cons_self φ h R
  obtain ⟨φ2, h2, cn, R2, E2, K2, hl, hA⟩ := ih (fun y hy => eO y (List.mem_cons_of_mem _ hy)) φ1 h1 R1
  refine ⟨φ2, h2, cs :: cn, R2, E1.trans E2 K1.nx, K1.trans K2, by simp [hl], fun i c y g1 g2 => ?_⟩
  cases i with
  | zero =>
   simp at g1 g2
   subst g1; subst g2
   exact ⟨LR.ext E2 L1, A1.bS K2 R1.top⟩
  | succ i => exact hA i c y (by simpa using g1) (by simpa using g2)
theorem EL {α : Type} : ∀ (cn : List (List α)) (z : Nat), (∀ cs ∈ cn, cs.length = z) → ∀ (i j : Nat) (cs : List α), cn[i]? = some cs → j < z → cn.flatten[i * z + j]? = cs[j]?
 | [], z, _, i, j, cs, h, _ => by simp at h
 | c :: cn, z, hz, 0, j, cs, h, hj => by
  simp at h; subst h
  have : c.length = z := hz c List.mem_cons_self
  rw [List.flatten_cons, Nat.zero_mul, Nat.zero_add, List.getElem?_append_left (by omega)]
 | c :: cn, z, hz, i + 1, j, cs, h, hj => by
  have hc : c.length = z := hz c List.mem_cons_self
  rw [List.flatten_cons, List.getElem?_append_right (by rw [hc, Nat.add_mul]; omega)]
  have := EL cn z (fun x hx => hz x (List.mem_cons_of_mem _ hx)) i j cs (by simpa using h) hj
  rw [← this]
  congr 1
  rw [hc, Nat.add_mul]; omega
theorem L4 {α : Type} : ∀ (cn : List (List α)) (z : Nat), (∀ cs ∈ cn, cs.length = z) → cn.flatten.length = cn.length * z
 | [], z, _ => by simp
 | c :: cn, z, hz => by
  rw [List.flatten_cons, List.length_append, L4 cn z (fun x hx => hz x (List.mem_cons_of_mem _ hx)), hz c List.mem_cons_self, List.length_cons, Nat.add_mul]; omega
theorem adL {W : World} {bO : List Value} {n : Nat} (dP : bO.length = n) : ∀ (fs : List Field) (ds : List (DataW H)) (o : Nat), z8 P o fs n = true → ds.length = fs.length →
    (∀ (i : Nat) (f : Field) (d : DataW H), fs[i]? = some f → ds[i]? = some d → wW P W f.type ((bO.drop f.offset).take (P.cellsOf f.type)) d) → ∀ (φ : ak) (h : AH), HR P W φ h W →
    ∃ φ' h' cs, HR P W φ' h' W ∧ Ext h.nx φ φ' ∧ cJ h h' ∧ o ≤ n ∧ LR φ' cs (bO.drop o) ∧ ∀ (i : Nat) (f : Field) (d : DataW H), fs[i]? = some f → ds[i]? = some d → o ≤ f.offset ∧ AD P h' f.type ((cs.drop (f.offset - o)).take (P.cellsOf f.type)) d := by
  intro fs
  induction fs with
  | nil =>
    intro ds o ht hl _ φ h R
    simp only [z8, beq_iff_eq] at ht
    exact ⟨φ, h, [], R, Ext.refl _ _, cJ.refl _, by omega, by rw [List.drop_eq_nil_of_le (by omega)]; exact .nil, fun i f d h1 => by simp at h1⟩
  | cons f fs ih =>
    intro ds o ht hl eO φ h R
    simp only [z8, Bool.and_eq_true, beq_iff_eq] at ht
    obtain ⟨ho, ht⟩ := ht
    cases ds with
    | nil => simp at hl
    | cons d ds =>
      obtain ⟨φ1, h1, c1, R1, E1, K1, L1, A1⟩ := eO 0 f d rfl rfl φ h R
      obtain ⟨φ2, h2, c2, R2, E2, K2, hon, L2, A2⟩ := ih ds (o + P.cellsOf f.type) ht (by simpa using hl) (fun i f' d' g1 g2 => eO (i + 1) f' d' (by simpa using g1) (by simpa using g2)) φ1 h1 R1
      rw [ho] at L1
      have hlen : c1.length = P.cellsOf f.type := by
        rw [L1.length, List.length_take, List.length_drop]; omega
      refine ⟨φ2, h2, c1 ++ c2, R2, E1.trans E2 K1.nx, K1.trans K2, by omega, ?_, fun i f' d' g1 g2 => ?_⟩
      · have : bO.drop o = (bO.drop o).take (P.cellsOf f.type) ++ bO.drop (o + P.cellsOf f.type) := by
          rw [← List.drop_drop, List.take_append_drop]
        rw [this]
        exact LR.append L2 (LR.ext E2 L1)
      · cases i with
        | zero =>
          simp at g1 g2
          subst g1; subst g2
          refine ⟨by omega, ?_⟩
          rw [ho, Nat.sub_self, List.drop_zero, List.take_append_of_le_length (by omega), List.take_of_length_le (by omega)]
          exact A1.bS K2 R1.top
        | succ i =>
          obtain ⟨a1, a2⟩ := A2 i f' d' (by simpa using g1) (by simpa using g2)
          refine ⟨by omega, ?_⟩
          rw [List.drop_append, List.drop_eq_nil_of_le (by omega), List.nil_append]
          rw [show f'.offset - o - c1.length = f'.offset - (o + P.cellsOf f.type) by omega]
          exact a2
theorem adM {W : World} {t e : TypeId} {a : Addr} {len cap : Nat} {fp rest : List (DataW H)} (hu : P.underlying t = some (.slice e)) (hz : 0 < P.cellsOf e) (hlen : len ≤ cap) (gh : cap ≤ maxLen) (hn : fp.length = len) (hr : rest.length = cap - len)
 (Aa : ∀ (i : Nat) (d : DataW H), (fp ++ rest)[i]? = some d → ∃ bO, W.cells? 0 (a.add (i * P.cellsOf e)) (P.cellsOf e) = some bO ∧ wW P W e bO d) : wW P W t [.slice (some a) len cap] (.slice fp rest) := by
 intro φ h R
 have adN : cap < aT := Nat.lt_of_le_of_lt gh (by decide)
 rcases Nat.eq_zero_or_pos cap with h0 | h0
 · -- no cell at all
   obtain ⟨R1, E1, K1⟩ := R.adK
   have he : fp = [] := List.eq_nil_of_length_eq_zero (by omega)
   have qg : rest = [] := List.eq_nil_of_length_eq_zero (by omega)
   subst he; subst qg
   have gS : len = 0 := by omega
   subst gS; subst h0
   refine ⟨_, _, [.slice (some ⟨h.nx, 0, none⟩) 0 0], R1, E1, K1, .cons _ _ _ _ (.sl _ _ _ _ _ (by simp [ak.put]) (.inl ⟨by decide, rfl, Nat.le_refl _, fun hh => absurd hh (Nat.lt_irrefl 0)⟩)) .nil, ?_⟩
   exact .sl t e h.nx 0 0 0 [] [] [] hu rfl (Nat.le_refl _) (Nat.zero_le _) rfl (fun cs dP => by cases dP) (AH.KH _ _ _) (fun i cs d h1 => by simp at h1)
 · have eO : (fp ++ rest).length = cap := by rw [List.length_append]; omega
   obtain ⟨d0, oX⟩ : ∃ d, (fp ++ rest)[0]? = some d := ⟨(fp ++ rest)[0]'(by omega), List.getElem?_eq_getElem (by omega)⟩
   obtain ⟨c0, tW, _⟩ := Aa 0 d0 oX
   obtain ⟨_, ajq, adO⟩ := World.cells?_some tW
   have mh := adO 0 hz
   rw [show (a.add (0 * P.cellsOf e)).add 0 = a by rw [Nat.zero_mul]; rfl] at mh
   have adP : c0[0]? = some (c0[0]'(by omega)) := List.getElem?_eq_getElem (by omega)
   rw [adP] at mh
   obtain ⟨arr, ty, fr, hw, EM⟩ : ∃ arr ty fr, W.heap[a.block]? = some (.cells arr ty fr) ∧ a.spot = none := by
    unfold World.cell? at mh
    split at mh
    · rename_i arr ty fr hh
      refine ⟨arr, ty, fr, hh, ?_⟩
      split at mh
      · cases mh
      · rename_i hs; simpa using hs
    · cases mh
   have adQ : ∀ (j : Nat), W.cell? (a.add j) = arr[a.off + j]? := by
    intro j
    rw [kU a EM]
    unfold World.cell?
    simp only [hw]; rfl
   have L5 : ∀ (i : Nat) (d : DataW H), fp[i]? = some d → ∃ bO, W.cells? 0 (a.add (i * P.cellsOf e)) (P.cellsOf e) = some bO ∧ wW P W e bO d := fun i d hd => Aa i d (by rw [List.getElem?_append_left (List.getElem?_eq_some_iff.1 hd).1]; exact hd)
   let l : List (List Value × DataW H) := (List.range len).map fun i => ((W.cells? 0 (a.add (i * P.cellsOf e)) (P.cellsOf e)).getD [], fp.getD i .nil)
   have jK : l.length = len := by simp [l]
   have mZ : ∀ (i : Nat) (d : DataW H), fp[i]? = some d → l[i]? = some ((W.cells? 0 (a.add (i * P.cellsOf e)) (P.cellsOf e)).getD [], d) := by
    intro i d hd
    have hi : i < len := by rw [← hn]; exact (List.getElem?_eq_some_iff.1 hd).1
    simp [l, hi, List.getD, hd]
   obtain ⟨φ1, h1, cn, R1, E1, K1, jb, hA⟩ := Up (P := P) (W := W) (t := e) l (fun x hx => by
    obtain ⟨i, hi⟩ := List.getElem?_of_mem hx
    have sy : i < len := by rw [← jK]; exact (List.getElem?_eq_some_iff.1 hi).1
    have hd : fp[i]? = some (fp[i]'(by omega)) := List.getElem?_eq_getElem (by omega)
    obtain ⟨bO, g1, g2⟩ := L5 i _ hd
    rw [mZ i _ hd] at hi
    cases hi
    rw [g1]
    exact g2) φ h R
   have oP : ∀ cs ∈ cn, cs.length = P.cellsOf e := by
    intro cs dP
    obtain ⟨i, hi⟩ := List.getElem?_of_mem dP
    have sy : i < len := by rw [← jK, ← jb]; exact (List.getElem?_eq_some_iff.1 hi).1
    have hd : fp[i]? = some (fp[i]'(by omega)) := List.getElem?_eq_getElem (by omega)
    obtain ⟨bO, g1, _⟩ := L5 i _ hd
    obtain ⟨L1, _⟩ := hA i cs _ hi (mZ i _ hd)
    rw [g1] at L1
    rw [L1.length]
    exact (World.cells?_some g1).2.1
   have r9 : a.block < W.heap.size := (Array.getElem?_eq_some_iff.1 hw).1
   obtain ⟨h2, R2, E2, K2, mQ, ib⟩ := R1.look (o := a.off) (l := cn.flatten) hw r9 (fun i v hv => by
    have L6 := L4 cn _ oP
    have hi : i < cn.length * P.cellsOf e := by rw [← L6]; exact (List.getElem?_eq_some_iff.1 hv).1
    have EN := Nat.div_add_mod i (P.cellsOf e)
    have Ab := Nat.mod_lt i hz
    have hq : i / P.cellsOf e < cn.length := Nat.div_lt_of_lt_mul (by rw [Nat.mul_comm]; exact hi)
    have dP : cn[i / P.cellsOf e]? = some (cn[i / P.cellsOf e]) := List.getElem?_eq_getElem hq
    have Ac := EL cn _ oP _ (i % P.cellsOf e) _ dP Ab
    rw [show i / P.cellsOf e * P.cellsOf e + i % P.cellsOf e = i by rw [Nat.mul_comm]; exact EN] at Ac
    rw [Ac] at hv
    have sy : i / P.cellsOf e < len := by omega
    have hd : fp[i / P.cellsOf e]? = some (fp[i / P.cellsOf e]'(by omega)) := List.getElem?_eq_getElem (by omega)
    obtain ⟨bO, g1, _⟩ := L5 _ _ hd
    obtain ⟨L1, _⟩ := hA _ _ _ dP (mZ _ _ hd)
    rw [g1] at L1
    obtain ⟨v', a1, a2⟩ := L1.get _ _ hv
    obtain ⟨_, b1, b2⟩ := World.cells?_some g1
    have b3 := b2 (i % P.cellsOf e) Ab
    have EO : bO[i % P.cellsOf e]? = some v' := a1
    rw [EO] at b3
    refine ⟨v', ?_, a2⟩
    have e1 : (a.add (i / P.cellsOf e * P.cellsOf e)).add (i % P.cellsOf e) = a.add i := by
     rw [kU a EM, kU _ rfl, kU a EM]
     simp only [Addr.mk.injEq, true_and, and_true]
     rw [Nat.mul_comm]; omega
    rw [e1, adQ] at b3
    exact b3)
   refine ⟨_, h2, [.slice (some ⟨h1.nx, a.off, none⟩) len cap], R2, E1.trans E2 K1.nx, K1.trans K2, .cons _ _ _ _ (.sl _ _ _ _ _ (by simp [ak.put]) (.inl ⟨adN, rfl, hlen, fun _ => ?_⟩)) .nil, ?_⟩
   · intro b d n hl
     have fh : (φ1.put h1.nx (.live a.block 0 arr.size)) h1.nx = some (.live b d n) := hl
     rw [ak.gj] at fh
     cases fh
     exact ⟨rfl, rfl, EM⟩
   · exact .sl t e h1.nx a.off len cap fp rest cn hu hn hlen gh (by omega) oP mQ (fun i cs d g1 g2 => ((hA i cs _ g1 (mZ i d g2)).2).bS K2 R1.top)
theorem LR.EP {φ : ak} {v : Value} (h : VR φ v v) : LR φ [v] [v] := .cons _ _ _ _ h .nil
theorem Uq {α : Type} {l : List α} {o n j : Nat} (hj : j < n) : ((l.drop o).take n)[j]? = l[o + j]? := by
 rw [List.getElem?_take, if_pos hj, List.getElem?_drop]
theorem adR {W : World} : ∀ (n : Nat) (t : TypeId) (bO : List Value) (x : DataW H × List MemPlace) (fuel : Nat), sx P n t = true → DataW.trod enc P W 0 (fun _ => true) true fuel t bO = some x → wW P W t bO x.1 := by
  intro n
  induction n with
  | zero => intro t bO x fuel hp; cases hp
  | succ n ih =>
    intro t bO x fuel hp ht
    rw [sx] at hp
    cases hu : P.underlying t with
    | none => rw [hu] at hp; cases hp
    | some ty =>
      rw [hu] at hp
      cases ty <;> first | (exact Bool.noConfusion hp) | skip
      case bool =>
        obtain ⟨b, rfl, rfl⟩ := DataW.trod_bool hu ht
        exact fun φ h R => ⟨φ, h, _, R, Ext.refl _ _, cJ.refl _, LR.EP (.bool _), .bool t _ hu⟩
      case int k =>
        obtain ⟨m, rfl, rfl, hw⟩ := DataW.trod_int hu ht
        exact fun φ h R => ⟨φ, h, _, R, Ext.refl _ _, cJ.refl _, LR.EP (.int _ _), .int t _ _ hu hw⟩
      case string =>
        obtain ⟨s, rfl, rfl, hs⟩ := DataW.trod_string hu ht
        exact fun φ h R => ⟨φ, h, _, R, Ext.refl _ _, cJ.refl _, LR.EP (.str _), .str t _ hu hs⟩
      case slice e =>
        simp only [Bool.and_eq_true, decide_eq_true_eq] at hp
        rcases DataW.trod_slice hu ht with ⟨rfl, rfl⟩ | ⟨a, len, cap, fp, rest, m, _, rfl, rfl, _, Ew, Kf, Aa, he, hr, _⟩
        · exact fun φ h R => ⟨φ, h, _, R, Ext.refl _ _, cJ.refl _, LR.EP .kM, .kM t e hu⟩
        · obtain ⟨hrl, hr⟩ := hr rfl
          refine adM hu hp.1 Ew Kf (by simp [Aa]) (by simp [hrl]) fun i d hd => ?_
          rw [← List.map_append, List.getElem?_map, Option.map_eq_some_iff] at hd
          obtain ⟨y, hy, rfl⟩ := hd
          have key : (W.cells? 0 (a.add (i * P.cellsOf e)) (P.cellsOf e)).bind (DataW.trod enc P W 0 (fun _ => true) true m e) = some y := by
            rcases Nat.lt_or_ge i len with h1 | h1
            · rw [he i h1]
              rw [List.getElem?_append_left (by omega)] at hy
              exact hy
            · have hi : i < fp.length + rest.length := by
                have := (List.getElem?_eq_some_iff.1 hy).1; simpa using this
              have := hr (i - len) (by omega)
              rw [show len + (i - len) = i by omega] at this
              rw [this]
              rw [List.getElem?_append_right (by omega), Aa] at hy
              exact hy
          rw [Option.bind_eq_some_iff] at key
          obtain ⟨bO, h1, h2⟩ := key
          exact ⟨bO, h1, ih e bO y m hp.2 h2⟩
      case struct fs =>
        simp only [Bool.and_eq_true] at hp
        obtain ⟨xs, m, _, rfl, hl, mi, hx⟩ := DataW.trod_struct hu ht
        intro φ h R
        obtain ⟨φ1, h1, cs, R1, E1, K1, _, L1, A1⟩ := adL (P := P) (W := W) hl fs.toList (xs.map (·.1)) 0 hp.1 (by simp [mi]) (fun i f d g1 g2 => by
          rw [List.getElem?_map, Option.map_eq_some_iff] at g2
          obtain ⟨y, hy, rfl⟩ := g2
          have g1' : fs[i]? = some f := by simpa using g1
          have := hx i f g1'
          rw [hy] at this
          exact ih f.type _ y m (List.all_eq_true.1 hp.2 f (List.mem_of_getElem? g1)) this) φ h R
        rw [List.drop_zero] at L1
        refine ⟨φ1, h1, cs, R1, E1, K1, L1, .struct t fs cs _ hu (by rw [L1.length]; exact hl) (by simp [mi]) fun i f d g1 g2 => ?_⟩
        have := (A1 i f d (by simpa using g1) g2).2
        rwa [Nat.sub_zero] at this
      case array k e =>
        simp only [Bool.and_eq_true, beq_iff_eq] at hp
        obtain ⟨xs, m, _, rfl, hl, mi, hx⟩ := DataW.trod_array hu ht
        intro φ h R
        let l : List (List Value × DataW H) := (List.range k).map fun i => ((bO.drop (i * P.cellsOf e)).take (P.cellsOf e), (xs.map (·.1)).getD i .nil)
        have mZ : ∀ (i : Nat) (d : DataW H), (xs.map (·.1))[i]? = some d → l[i]? = some ((bO.drop (i * P.cellsOf e)).take (P.cellsOf e), d) := by
          intro i d hd
          have hi : i < k := by rw [← mi]; have := (List.getElem?_eq_some_iff.1 hd).1; simpa using this
          show ((List.range k).map fun i => ((bO.drop (i * P.cellsOf e)).take (P.cellsOf e), (xs.map (·.1)).getD i .nil))[i]? = _
          rw [List.getElem?_map, List.getElem?_range hi, Option.map_some, List.getD_eq_getElem?_getD, hd]
          rfl
        have jK : l.length = k := by simp [l]
        have L7 : ∀ i, i < k → ∃ y, xs[i]? = some y ∧ (xs.map (·.1))[i]? = some y.1 := fun i hi => ⟨xs[i]'(by omega), List.getElem?_eq_getElem (by omega), by rw [List.getElem?_map, List.getElem?_eq_getElem (by omega)]; rfl⟩
        obtain ⟨φ1, h1, cn, R1, E1, K1, jb, hA⟩ := Up (P := P) (W := W) (t := e) l (fun x eH => by
          obtain ⟨i, hi⟩ := List.getElem?_of_mem eH
          have sy : i < k := by rw [← jK]; exact (List.getElem?_eq_some_iff.1 hi).1
          obtain ⟨y, L8, Ad⟩ := L7 i sy
          rw [mZ i _ Ad] at hi
          cases hi
          have := hx i sy
          rw [L8] at this
          exact ih e _ y m hp.2 this) φ h R
        have l7 : ∀ i, i < k → ((bO.drop (i * P.cellsOf e)).take (P.cellsOf e)).length = P.cellsOf e := by
          intro i hi
          rw [List.length_take, List.length_drop, hl, ← hp.1]
          have : (i + 1) * P.cellsOf e ≤ k * P.cellsOf e := Nat.mul_le_mul_right _ hi
          rw [Nat.add_mul] at this
          omega
        have oP : ∀ cs ∈ cn, cs.length = P.cellsOf e := by
          intro cs dP
          obtain ⟨i, hi⟩ := List.getElem?_of_mem dP
          have sy : i < k := by rw [← jK, ← jb]; exact (List.getElem?_eq_some_iff.1 hi).1
          obtain ⟨y, L8, Ad⟩ := L7 i sy
          obtain ⟨L1, _⟩ := hA i cs _ hi (mZ i _ Ad)
          rw [L1.length]; exact l7 i sy
        have L6 := L4 cn _ oP
        have adS : cn.length = k := by omega
        have Ur : cn.flatten.length = P.cellsOf t := by rw [L6, adS, hp.1]
        refine ⟨φ1, h1, cn.flatten, R1, E1, K1, LR.Is (by omega) fun i v v' g1 g2 => ?_, .arr t e k _ _ hu Ur (by simp [mi]) fun i d g => ?_⟩
        · have hi : i < k * P.cellsOf e := by rw [hp.1, ← Ur]; exact (List.getElem?_eq_some_iff.1 g1).1
          have hz : 0 < P.cellsOf e := by
            rcases Nat.eq_zero_or_pos (P.cellsOf e) with h0 | h0
            · rw [h0, Nat.mul_zero] at hi; omega
            · exact h0
          have Ab := Nat.mod_lt i hz
          have hq : i / P.cellsOf e < k := Nat.div_lt_of_lt_mul (by rw [Nat.mul_comm]; exact hi)
          have dP : cn[i / P.cellsOf e]? = some (cn[i / P.cellsOf e]'(by omega)) := List.getElem?_eq_getElem (by omega)
          have Ac := EL cn _ oP _ (i % P.cellsOf e) _ dP Ab
          have EN := Nat.div_add_mod i (P.cellsOf e)
          rw [show i / P.cellsOf e * P.cellsOf e + i % P.cellsOf e = i by rw [Nat.mul_comm]; exact EN] at Ac
          rw [Ac] at g1
          obtain ⟨y, L8, Ad⟩ := L7 _ hq
          obtain ⟨L1, _⟩ := hA _ _ _ dP (mZ _ _ Ad)
          obtain ⟨u, a1, a2⟩ := L1.get _ _ g1
          have EO : ((bO.drop (i / P.cellsOf e * P.cellsOf e)).take (P.cellsOf e))[i % P.cellsOf e]? = some u := a1
          rw [Uq Ab, show i / P.cellsOf e * P.cellsOf e + i % P.cellsOf e = i by rw [Nat.mul_comm]; exact EN, g2] at EO
          cases EO
          exact a2
        · have hi : i < k := by rw [← mi]; have := (List.getElem?_eq_some_iff.1 g).1; simpa using this
          have dP : cn[i]? = some (cn[i]'(by omega)) := List.getElem?_eq_getElem (by omega)
          have e1 : ((cn.flatten.drop (i * P.cellsOf e)).take (P.cellsOf e)) = cn[i]'(by omega) := by
            refine List.ext_getElem? fun j => ?_
            rcases Nat.lt_or_ge j (P.cellsOf e) with hj | hj
            · rw [Uq hj]; exact EL cn _ oP i j _ dP hj
            · rw [List.getElem?_eq_none (by rw [List.length_take]; omega), List.getElem?_eq_none (by rw [oP _ (List.getElem_mem _)]; omega)]
          rw [e1]
          exact (hA i _ _ dP (mZ i _ g)).2
end
end Go.Ve
namespace Go.Ve
open Go.RowKit
open Classical
noncomputable section
def AH.kW (h : AH) (b : Nat) (o : AO) : AH := ⟨h.nx, h.ob.set b (some o)⟩
def AH.dH (h : AH) (o : AO) : AH := ⟨h.nx + 1, h.ob.set h.nx (some o)⟩
theorem AH.qE (h : AH) (b : Nat) (o : AO) (f : Nat) : (h.kW b o).ob.get f = if f = b then some o else h.ob.get f := by
 show (h.ob.set b (some o)).get f = _
 rw [NT.cQ]
theorem AH.pg (h : AH) (o : AO) (f : Nat) : (h.dH o).ob.get f = if f = h.nx then some o else h.ob.get f := by
 show (h.ob.set h.nx (some o)).get f = _
 rw [NT.cQ]
theorem AH.wN {h : AH} (H : h.Ok) (o : AO) : (h.dH o).Ok := fun f hf => by
 have : h.nx + 1 ≤ f := hf
 rw [AH.pg, if_neg (by omega)]
 exact H f (by omega)
theorem AH.Es {h : AH} (H : h.Ok) {b : Nat} (hb : b < h.nx) (o : AO) : (h.kW b o).Ok := fun f hf => by
 have : h.nx ≤ f := hf
 rw [AH.qE, if_neg (by omega)]
 exact H f this
theorem cJ.dH (h : AH) (o : AO) : cJ h (h.dH o) := ⟨Nat.le_succ _, fun f hf => by rw [AH.pg, if_neg (by omega)]⟩
abbrev LO := LoopState → Option Code → AO
def isL (lo : LO) : Prop := ∃ fn tm ps a b d nt, ∀ st pd, lo st pd = .loop ⟨st, pd, fn, tm, ps, a, b, d, nt⟩
def iS : List Nat → W → W
 | [], K => K
 | r :: rs, K => fun h => h.ob.get r = some (.defs false) ∧ iS rs K (h.kW r (.defs true))
def fT (rs : List Nat) : DS := ⟨rs.map .nJ, .off⟩
def lT : Value → W := fun _ _ => False
def xl : List (Nat × W) → Nat → W
 | [], _ => fun _ => False
 | (j, A) :: l, id => bif Nat.beq id j then A else xl l id
def rh (pd : Option Code) (N Rt : W) (X : List (Nat × W)) : W := match pd with
 | none => N
 | some .ret => Rt
 | some (.exit id) => xl X id
 | _ => fun _ => False
def pM (lo : LO) (l : Nat) (K : W) : W := fun h => (∃ st pd, h.ob.get l = some (lo st pd)) ∧ K h
def lS (lo : LO) (l : Nat) (K : W) : W := fun h => ∃ pd, h.ob.get l = some (lo .ready pd) ∧ K (h.kW l (lo .busy pd))
def iT (lo : LO) (l : Nat) (st : LoopState) (pd : Option Code) (b : Bool) (R : Value → W) : W := fun h => (∃ s p, h.ob.get l = some (lo s p)) ∧ R (.bool b) (h.kW l (lo st pd))
def yq (R : Value → W) : CR → AH → Prop := fun r h => match r with
 | .ret v => R v h
 | .az _ => False
def Lb (P : Program) (w0 : World) (g : FuncId) (first bw : List Value) (B : LO → Nat → List Value → (Value → W) → W) (E : Value → W) (K : Option Code → W) : W := fun h =>
 ∀ lo : LO, (∀ (l : Nat) (vs : List Value) (R : Value → W) (h : AH), B lo l vs R h → WR P w0 l vs h (yq R)) →
  WF P w0 g (first ++ .func (.yield h.nx) ⟨[]⟩ ⟨[]⟩ :: bw) (h.dH (lo .ready none)) fun r h' => match r with
   | .ret _ => ∃ st pd, h'.ob.get h.nx = some (lo st pd) ∧ JZ st = true ∧ K pd (h'.kW h.nx (lo .exhausted pd))
   | .az v => E v h'
def vE (P : Program) (w0 : World) (fv : Value) (B : LO → Nat → List Value → (Value → W) → W) (E : Nat → Value → W) (K : Nat → Option Code → W) : W := match fv with
 | .func (.func g) ⟨first⟩ ⟨bw⟩ => fun h => Lb P w0 g first bw B (E h.nx) (K h.nx) (h.dH (.defs false))
 | _ => fun _ => False
def x9 (F : Value → Value → W) : List Value → W
 | [a, b] => F a b
 | _ => fun _ => False
def Et (σ : Sl) : List Pos → List Value → Sl
 | [], _ => σ
 | _, [] => σ
 | p :: ps, v :: vs => Et (σ.up p v) ps vs
section
variable {P : Program} {w0 : World}
theorem zS (h : AH) (o : AO) (k : Nat → AH → Bool) : kj h o k = k h.nx (h.dH o) := KL h o k
theorem wO (h : AH) (b : Nat) (o : AO) (k : AH → Bool) : ff h b (some o) k = k (h.kW b o) := KK h b (some o) k
theorem Eu {h : AH} {b : Nat} {r : jH} (hr : h.ob.get b = some (.loop r)) (k : jH → Bool) : l9 h b k = k r := by
 unfold l9; rw [sh hr]
theorem adg {h : AH} {b : Nat} {t : Bool} (hr : h.ob.get b = some (.defs t)) (k : Bool → Bool) : wv h b k = k t := by
 unfold wv; rw [sh hr]
theorem adh (g : FuncId) (first bw : List Value) (kf : Nat → List Value → List Value → Bool) (ky : Nat → Bool) : rH (.func (.func g) ⟨first⟩ ⟨bw⟩) kf ky = kf g first bw := rfl
theorem TP : ∀ {ps : List Pos} {vs : List Value} {t : PT} {k : PT → Bool}, ps.length = vs.length → (∀ t' : PT, t'.get = Et t.get ps vs → k t' = true) → wx ps vs t k = true
 | [], [], t, k, _, hk => hk t rfl
 | p :: ps, v :: vs, t, k, hl, hk => by
  show PT.fm p t v (fun t => wx ps vs t k) = true
  rw [PT.kK]
  refine TP (by simpa using hl) fun t' rP => hk t' ?_
  rw [rP, Sl.TB]; rfl
def Lc (lo : LO) (l : Nat) (R : Value → W) : PQ := fun x _ d h => d.df = [] ∧ (match x with
 | .normal => iT lo l .ready none true R h
 | .ret => iT lo l .done (some .ret) false R h
 | .exit id => iT lo l .done (some (.exit id)) false R h
 | .az _ => False)
def Ld (P : Program) (w0 : World) (lo : LO) (l : Nat) (b : cA) (e : Env) (R : Value → W) : PQ := fun x σ d h => match x with
 | .normal => lS lo l (fun h => dw P w0 b e σ d h (Lc lo l R)) h
 | _ => False
theorem adi (bt : P.follows .mixedOrders = true) {fn : FuncId} {nt : Nat} {tm : PT} {ps : List Pos} {a b : cA} {Le : Nat} {lo : LO} (nV : ∀ st pd, lo st pd = .loop ⟨st, pd, fn, tm, ps, a, b, Le, nt⟩) {l : Nat} {vs : List Value} {h : AH} {R : Value → W}
 (hl : ∃ st pd, h.ob.get l = some (lo st pd)) (hlen : ps.length = vs.length) (H : dw P w0 a ⟨fn, nt, some l⟩ (Et tm.get ps vs) ⟨[], .off⟩ h (Ld P w0 lo l b ⟨fn, nt, some l⟩ R)) : WR P w0 l vs h (yq R) := by
 obtain ⟨st, pd, hl⟩ := hl
 rw [nV] at hl
 show qd P w0 l vs h (fun r h => decide (yq R r h))
 refine Rm (rec := ez P w0) (zO P w0) ?_
 show l9 h l (fun r => wx r.params vs r.tm fun tm => ez P w0 (.code r.assign ⟨r.fn, r.nt, some l⟩ ⟨tm, [], .off, h⟩ (Jp (ez P w0) l r _))) = true
 rw [Eu hl]
 refine TP hlen fun t' rP => ?_
 refine ku P w0 (cR.uD (fun x s hx => ?_) (Ea bt a H t' rP))
 have eH := of_decide_eq_true hx
 cases x with
 | normal =>
  obtain ⟨sr, h1, h2⟩ : lS lo l (fun h => dw P w0 b ⟨fn, nt, some l⟩ s.tm.get ⟨s.df, s.rc⟩ h (Lc lo l R)) s.h := eH
  rw [nV] at h1
  show l9 s.h l (fun r => iff (isReady r.state) (ff s.h l (some (.loop (r.hZ .busy r.db))) fun h => ez P w0 (.code b ⟨fn, nt, some l⟩ ⟨s.tm, s.df, s.rc, h⟩ (Dp l _)))) = true
  rw [Eu h1]
  show iff true (ff s.h l (some (.loop ⟨.busy, sr, fn, tm, ps, a, b, Le, nt⟩)) fun h => ez P w0 (.code b ⟨fn, nt, some l⟩ ⟨s.tm, s.df, s.rc, h⟩ (Dp l fun r h => decide (yq R r h)))) = true
  rw [eA, wO, ← nV]
  refine ku P w0 (cR.uD (fun x s hx => ?_) (Ea bt b h2 s.tm rfl))
  obtain ⟨hd, eH⟩ := of_decide_eq_true hx
  have DW : s.df = [] := hd
  show rO s.df _ = true
  rw [DW]
  have fin : ∀ (j : Option Code) (st : LoopState) (b' : Bool), iT lo l st j b' R s.h → zg l s.h (fun r h => decide (yq R r h)) j st b' = true := fun j st b' hf => by
   obtain ⟨⟨s1, p1, h3⟩, h4⟩ := hf
   rw [nV] at h3
   show l9 s.h l _ = true
   rw [Eu h3]
   show ff s.h l (some (.loop ⟨st, j, fn, tm, ps, a, b, Le, nt⟩)) _ = true
   rw [wO, ← nV]
   exact decide_eq_true h4
  cases x with
  | normal => exact fin _ _ _ eH
  | ret => exact fin _ _ _ eH
  | exit id => exact fin _ _ _ eH
  | az v => exact eH.elim
 | exit id => exact False.elim eH
 | ret => exact False.elim eH
 | az v => exact False.elim eH
def Lf (Q : PQ) (σ : Sl) (d : DS) (pd : Option Code) (h : AH) : Prop := match pd with
 | none => Q .normal σ d h
 | some .ret => Q .ret σ d h
 | some (.exit id) => Q (.exit id) σ d h
 | _ => False
theorem adj {e : Env} {tm : PT} {df : List eg} {rc : Rc} {ps : List Pos} {a b : cA} {g : FuncId} {first bw : List Value} {h : AH} {dl : Nat} {B : LO → Nat → List Value → (Value → W) → W} {E : Value → W} {K : Option Code → W} {Q : PQ} {s : St} (gQ : s.tm = tm) (jt : s.rc = rc)
 (H : Lb P w0 g first bw B E K h) (hB : ∀ lo : LO, (∀ st pd, lo st pd = .loop ⟨st, pd, e.fn, tm, ps, a, b, dl, e.nt⟩) → ∀ (l : Nat) (vs : List Value) (R : Value → W) (h : AH), B lo l vs R h → WR P w0 l vs h (yq R))
 (hE : ∀ v h, E v h → Q (.az v) tm.get ⟨df, rc⟩ h) (hK : ∀ pd h, K pd h → Lf Q tm.get ⟨df, rc⟩ pd h) : yW (ez P w0) e s (fun x s => decide (Q x s.tm.get ⟨s.df, s.rc⟩ s.h)) ps a b g first bw h dl df = true := by
 show kj h (.loop ⟨.ready, none, e.fn, s.tm, ps, a, b, dl, e.nt⟩) (fun l h => gi first (.func (.yield l) ⟨[]⟩ ⟨[]⟩ :: bw) fun args => ez P w0 (.call g args h (I3 s df _ l))) = true
 rw [zS, sd, gQ]
 refine ku P w0 (fG.mono (fun r h' hr => ?_) (H (fun st pd => .loop ⟨st, pd, e.fn, tm, ps, a, b, dl, e.nt⟩) (hB _ fun _ _ => rfl)))
 have nN := of_decide_eq_true hr
 cases r with
 | ret v =>
  obtain ⟨st, pd, h1, h2, h3⟩ := nN
  show l9 h' h.nx _ = true
  rw [Eu h1]
  show iff (JZ st) (ff h' h.nx (some (.loop ⟨.exhausted, pd, e.fn, tm, ps, a, b, dl, e.nt⟩)) _) = true
  rw [h2, eA, wO]
  have := hK pd _ h3
  unfold Lf at this
  unfold C9
  rw [gQ, jt]
  split at this
  · exact decide_eq_true this
  · exact decide_eq_true this
  · exact decide_eq_true this
  · exact this.elim
 | az v =>
  show decide (Q (.az v) s.tm.get ⟨df, s.rc⟩ h') = true
  rw [gQ, jt]
  exact decide_eq_true (hE v h' nN)
theorem adk {Q : PQ} {σ : Sl} {d : DS} {N Rt : W} {X : List (Nat × W)} (hN : ∀ h, N h → Q .normal σ d h) (hR : ∀ h, Rt h → Q .ret σ d h) (hX : ∀ p ∈ X, ∀ h, p.2 h → Q (.exit p.1) σ d h) (pd : Option Code) (h : AH) (H : rh pd N Rt X h) : Lf Q σ d pd h := by
 unfold rh at H
 split at H
 · exact hN _ H
 · exact hR _ H
 · rename_i id
   show Q (.exit id) σ d h
   induction X with
   | nil => exact H.elim
   | cons p X ih =>
    obtain ⟨j, A⟩ := p
    have H' : (bif Nat.beq id j then A else xl X id) h := H
    cases hj : Nat.beq id j with
    | true =>
     rw [hj] at H'
     have := Nat.eq_of_beq_eq_true hj
     subst this
     exact hX _ List.mem_cons_self _ H'
    | false =>
     rw [hj] at H'
     exact ih (fun p hp => hX p (List.mem_cons_of_mem _ hp)) H'
 · exact H.elim
def Lg (Q : PQ) (σ : Sl) (d : DS) : List (Nat × W) → Prop
 | [] => True
 | (j, A) :: l => (∀ h, A h → Q (.exit j) σ d h) ∧ Lg Q σ d l
theorem TQ {Q : PQ} {σ : Sl} {d : DS} : ∀ {X : List (Nat × W)}, Lg Q σ d X → ∀ p ∈ X, ∀ h, p.2 h → Q (.exit p.1) σ d h
 | [], _, p, hp => by cases hp
 | (j, A) :: l, ⟨h1, h2⟩, p, hp => by
  rcases List.mem_cons.1 hp with rfl | hp
  · exact h1
  · exact TQ h2 p hp
theorem G8 (bt : P.follows .mixedOrders = true) {fn : FuncId} {nt : Nat} {f : dC} {ps : List Pos} {a b : cA} {σ : Sl} {rs : List Nat} {h : AH} {Q : PQ} {fv : Value} (B : LO → Nat → List Value → (Value → W) → W) (E : Nat → Value → W) (N Rt : Nat → W) (X : Nat → List (Nat × W))
 (hf : dX σ f = fv) (H : vE P w0 fv B E (fun r pd => rh pd (N r) (Rt r) (X r)) h) (hE : ∀ r v h, E r v h → Q (.az v) σ (fT (r :: rs)) h)
 (hN : ∀ r h, N r h → Q .normal σ (fT (r :: rs)) h) (hR : ∀ r h, Rt r h → Q .ret σ (fT (r :: rs)) h) (hX : ∀ r, Lg Q σ (fT (r :: rs)) (X r))
 (hB : ∀ (lo : LO) (_ : isL lo) (l : Nat) (vs : List Value) (R : Value → W) (h : AH), B lo l vs R h → (∃ st pd, h.ob.get l = some (lo st pd)) ∧ ps.length = vs.length ∧ dw P w0 a ⟨fn, nt, some l⟩ (Et σ ps vs) ⟨[], .off⟩ h (Ld P w0 lo l b ⟨fn, nt, some l⟩ R)) :
 dw P w0 (.lY f ps a b) ⟨fn, nt, none⟩ σ (fT rs) h Q := by
 intro tm dD
 subst dD
 refine pb bt ?_
 show qh f tm (fun fv => rH fv (fun g first bw => kj h (.defs false) fun r h => yW (ez P w0) ⟨fn, nt, none⟩ ⟨tm, rs.map .nJ, .off, _⟩ _ ps a b g first bw h r (.nJ r :: rs.map .nJ)) ly) = true
 rw [Ka, KC, hf]
 unfold vE at H
 split at H
 · rename_i g first bw
   rw [adh, zS]
   refine adj rfl rfl H (fun lo nV l vs R h hb => ?_) (fun v h hv => hE _ v h hv) (fun pd h hk => adk (hN _) (hR _) (TQ (hX _)) pd h hk)
   obtain ⟨h1, h2, h3⟩ := hB lo ⟨_, _, _, _, _, _, _, nV⟩ l vs R h hb
   exact adi bt nV h1 h2 h3
 · exact H.elim
theorem Ha {lo : LO} {l : Nat} {K : W} {h : AH} (H : pM lo l K h) : (∃ st pd, h.ob.get l = some (lo st pd)) ∧ K h := H
theorem adl {lo : LO} {l : Nat} {K K' : W} {h : AH} (H : lS lo l K h) (hk : ∀ h, K h → K' h) : lS lo l K' h := by
 obtain ⟨pd, h1, h2⟩ := H
 exact ⟨pd, h1, hk _ h2⟩
theorem Hb {lo : LO} {l : Nat} {K : W} {b : cA} {e : Env} {R : Value → W} {σ : Sl} {d : DS} {h : AH} (H : lS lo l K h) (hk : ∀ h, K h → dw P w0 b e σ d h (Lc lo l R)) : Ld P w0 lo l b e R .normal σ d h := adl H hk
theorem G9 {F : Value → Value → W} {vs : List Value} {h : AH} (H : x9 F vs h) : ∃ a b, vs = [a, b] ∧ F a b h := by
 unfold x9 at H; split at H
 · exact ⟨_, _, rfl, H⟩
 · exact H.elim
theorem Lh {K : Option Value → AH → Prop} {m : Option Value} : ∀ {rs : List Nat} {h : AH}, iS rs (K m) h → WL P w0 (rs.map .nJ) m h K
 | [], h, H => H
 | r :: rs, h, H => by
  obtain ⟨h1, h2⟩ : h.ob.get r = some (.defs false) ∧ iS rs (K m) (h.kW r (.defs true)) := H
  have ih := Lh (rs := rs) h2
  refine Jb (rec := ez P w0) (zO P w0) ?_
  show wv h r (fun t => iff (!t) (ff h r (some (.defs true)) fun h => ez P w0 (.leave (rs.map .nJ) m h _))) = true
  rw [adg h1]
  rw [Bool.not_false, eA, wO]
  exact KF (fun m h hm => decide_eq_true hm) ih
theorem ya {Q : PQ} {σ : Sl} {d : DS} {h : AH} (res : List j4) (R : CR → AH → Prop) (rs : List Nat) (hQ : Q .ret σ d h = zP P w0 res R .ret σ (fT rs) h) (H : iS rs (fun h => kV res σ h fun vs => R (.ret (uE vs)) h) h) : Q .ret σ d h := by
 rw [hQ]
 exact Lh (m := none) (K := fun m h => match m with | none => kV res σ h fun vs => R (.ret (uE vs)) h | some v => R (.az v) h) H
theorem pN {Q : PQ} {σ : Sl} {d : DS} {h : AH} {v : Value} (res : List j4) (R : CR → AH → Prop) (rs : List Nat) (hQ : Q (.az v) σ d h = zP P w0 res R (.az v) σ (fT rs) h) (H : iS rs (fun h => R (.az v) h) h) : Q (.az v) σ d h := by
 rw [hQ]
 exact Lh (m := some v) (K := fun m h => match m with | none => res = [] ∧ R (.ret (.tuple ⟨[]⟩)) h | some v => R (.az v) h) H
def cE (rs : List Nat) (E : Value → W) : Value → W := fun v => iS rs (E v)
section
variable {e : Env} {σ : Sl} {h : AH} {Q : PQ} {a b c : cA}
theorem ri {α : Type} (U : List (Pos × Value)) (M : α → List (Pos × Value)) (π : Sl → α) (J : α → List Nat → W) {rs : List Nat} (hM : ∀ σ, lF σ (M (π σ))) (hb : ∀ (x : α) (rs : List Nat) (σ : Sl) (h : AH), J x rs h → dw P w0 b e ((σ.nU U).nU (M x)) (fT rs) h Q)
 (ha : dw P w0 a e σ (fT rs) h (sc (fun σ d' h => ∃ qF, d' = fT qF ∧ lF σ U ∧ J (π σ) qF h) Q)) : dw P w0 (.seq a b) e σ (fT rs) h Q := by
 refine Ec a (fun x σ d' h hx => ?_) ha
 cases x with
 | normal =>
  obtain ⟨qF, rfl, h2, h3⟩ := hx
  have := hb (π σ) qF σ h h3
  rwa [qD h2, qD (hM σ)] at this
 | _ => exact hx
theorem Pu (bt : P.follows .mixedOrders = true) {α : Type} (U : List (Pos × Value)) (M : α → List (Pos × Value)) (π : Sl → α) (F : (α × List Nat → W) → α × List Nat → W) (hM : ∀ σ, lF σ (M (π σ)))
 (hF : ∀ (k : α × List Nat → W) (x : α) (rs : List Nat) (σ : Sl) (h : AH), F k (x, rs) h → dw P w0 c e ((σ.nU U).nU (M x)) (fT rs) h (sc (fun σ d' h => ∃ qF, d' = fT qF ∧ lF σ U ∧ k (π σ, qF) h) Q)) {x : α} {rs : List Nat} (hx : π σ = x) (hU : lF σ U) (H : LP F (x, rs) h) : dw P w0 (.loop c) e σ (fT rs) h Q := by
 subst hx
 obtain ⟨n, H⟩ := H
 have key : ∀ n rs σ h, lF σ U → gr F n (π σ, rs) h → WC P w0 (.loop c) e σ (fT rs) h Q := by
  intro n
  induction n with
  | zero => intro rs σ h _ H; exact H.elim
  | succ n ih =>
   intro rs σ h hU H
   refine KE bt ?_
   have h1 := hF (gr F n) (π σ) rs σ h H
   rw [qD hU, qD (hM σ)] at h1
   refine Ec c (fun x σ d' h hx => ?_) h1
   cases x with
   | normal =>
    obtain ⟨qF, rfl, h2, h3⟩ := hx
    exact ih qF σ h h2 h3
   | _ => exact hx
 exact key n rs σ h hU H
end
end
end
end Go.Ve
namespace Go.Ve
open Go.RowKit
noncomputable section
def AH.kill (h : AH) (b : Nat) : AH := ⟨h.nx, h.ob.set b none⟩
theorem AH.Ev (h : AH) (b f : Nat) : (h.kill b).ob.get f = if f = b then none else h.ob.get f := by
 show (h.ob.set b none).get f = _
 rw [NT.cQ]
theorem AH.TS {h : AH} (H : h.Ok) (b : Nat) : (h.kill b).Ok := fun f hf => by
 rw [AH.Ev]; split
 · rfl
 · exact H f hf
theorem TT (h : AH) (b : Nat) (k : AH → Bool) : ff h b none k = k (h.kill b) := KK h b none k
section
variable {h : AH} {R : Value → AH → Prop}
theorem adm {zero l : List Value} {ps : List (Nat × Nat)} {vs : List Value} (hf : ∀ k : List Value → Bool, ia zero ps vs k = k l) : WP (.build zero ps) vs h R ↔ R (.agg ⟨l⟩) h := cm fun k => hf _
theorem adn {ty : TypeId} {n : Nat} {cells l : List Value} {ps : List (Nat × Nat)} {vs : List Value} (hf : ∀ k : List Value → Bool, ia cells ps vs k = k l) (ha : cB l = true) :
 WP (.buildSlice ty n cells ps) vs h R ↔ R (eB h.nx 0 n n) (h.new ty l) := cm fun k => by
 show ia cells ps vs (fun l => jv h ty l fun b h => k (.slice (some ⟨b, 0, none⟩) n n) h) = _
 rw [hf, uH h ty ha]
theorem ado (n : Nat) (zero : List Value) (k : List Value → Bool) : vR n zero k = k ((List.replicate n zero).flatten) := by
 induction n generalizing k with
 | zero => rfl
 | succ n ih =>
  show vR n zero (fun l => gi zero l k) = _
  rw [ih, sd]; rfl
theorem adp {ty : TypeId} {sz l c : Nat} {zero : List Value} {k1 k2 : IntKind} (Ew : l ≤ c) (hc : c ≤ 65536) (hz : zero.length = sz) (ha : cB ((List.replicate c zero).flatten) = true) :
 WP (.mkSlice ty sz zero) [.int k1 (l : Int), .int k2 (c : Int)] h R ↔ R (eB h.nx 0 l c) (h.new ty (List.replicate c zero).flatten) := cm fun k => by
 show iff (Nat.ble l c && Nat.ble c 65536 && gE zero sz) (vR c zero fun cs => jv h ty cs fun b h => k (.slice (some ⟨b, 0, none⟩) l c) h) = _
 have e : (Nat.ble l c && Nat.ble c 65536 && gE zero sz) = true := by
  rw [sj]; simp only [Bool.and_eq_true, Nat.ble_eq, decide_eq_true_eq]; exact ⟨⟨Ew, hc⟩, hz⟩
 rw [e, eA, ado, uH h ty ha]
theorem adq (sz : Nat) (k : Nat → List Value → Bool) {n c : Nat} : kp h sz (.slice none n c) k = k 0 [] := rfl
theorem adr {sz b o n c : Nat} {l : List Value} (hr : h.aW b o l) (hl : l.length = n * sz) (hn : 0 < n * sz) (k : Nat → List Value → Bool) : kp h sz (eB b o n c) k = k n l := by
 show (bif Nat.beq n 0 then k 0 [] else j9 h b o (Nat.mul n sz) fun l => k n l) = _
 have h0 : n ≠ 0 := fun e => by rw [e] at hn; omega
 rw [ep h0]
 exact KM hr hl hn _
theorem ads {sz b o c : Nat} (k : Nat → List Value → Bool) : kp h sz (eB b o 0 c) k = k 0 [] := rfl
section
variable {ty : TypeId} {sz n : Nat} {zero xs : List Value} {x : Value}
theorem uI (hx : ∀ k : Nat → List Value → Bool, kp h sz x k = k n xs) (h1 : 1 ≤ sz) (hz : zero.length = sz) (s : Value) (k : KV) :
 (Prim.append ty sz zero).ev [s, x] h k = jx s (wy h ty sz n xs k) (wz h ty sz n xs k) := by
 show kp h sz x (fun n xs => iff (Nat.ble 1 sz && gE zero sz) (jx s (wy h ty sz n xs k) (wz h ty sz n xs k))) = _
 rw [hx]
 have e : (Nat.ble 1 sz && gE zero sz) = true := by rw [sj]; simp only [Bool.and_eq_true, Nat.ble_eq, decide_eq_true_eq]; exact ⟨h1, hz⟩
 rw [e, eA]
theorem TU (hx : ∀ k : Nat → List Value → Bool, kp h sz x k = k 0 xs) (h1 : 1 ≤ sz) (hz : zero.length = sz) {a : Addr} {len cap : Nat} :
 WP (.append ty sz zero) [.slice (some a) len cap, x] h R ↔ R (.slice (some ⟨a.block, a.off, none⟩) len cap) h := cm fun k => by
 rw [uI hx h1 hz]; cases a; rfl
theorem adt (hx : ∀ k : Nat → List Value → Bool, kp h sz x k = k 0 xs) (h1 : 1 ≤ sz) (hz : zero.length = sz) {len cap : Nat} :
 WP (.append ty sz zero) [.slice none len cap, x] h R ↔ R cP h := cm fun k => by
 rw [uI hx h1 hz]; rfl
theorem adu (hx : ∀ k : Nat → List Value → Bool, kp h sz x k = k n xs) (h1 : 1 ≤ sz) (hz : zero.length = sz) (hn : 0 < n) (hb : n ≤ 1048576) (ha : cB xs = true) {len cap : Nat} :
 WP (.append ty sz zero) [.slice none len cap, x] h R ↔ R (eB h.nx 0 n (aT + sz)) (h.new ty xs) := cm fun k => by
 rw [uI hx h1 hz]
 show (bif Nat.beq n 0 then k (.slice none 0 0) h else iff (Nat.ble n 1048576) (jv h ty xs fun b h => fN (Nat.add aT sz) fun cp => k (.slice (some ⟨b, 0, none⟩) n cp) h)) = _
 have e : Nat.ble n 1048576 = true := by rw [Nat.ble_eq]; exact hb
 rw [ep (show n ≠ 0 by omega), e]
 show jv h ty xs _ = _
 rw [uH h ty ha, bH]; rfl
def AH.grown (h : AH) (b o : Nat) (ty : TypeId) (c : NT Value) (at_ cI : Nat) (xs : List Value) : AH := (h.kill b).dH (.cells o cI ty true (ik c at_ xs))
theorem adv (hx : ∀ k : Nat → List Value → Bool, kp h sz x k = k n xs) (h1 : 1 ≤ sz) (hz : zero.length = sz) (hn : 0 < n) {b o len lo hi : Nat} {c : NT Value} {s : Option Nat} (hb : len + n ≤ 1048576) (ha : cB xs = true)
 (hg : h.ob.get b = some (.cells lo hi ty true c)) (nV : lo ≤ o) (Li : o + len * sz ≤ hi) :
 WP (.append ty sz zero) [.slice (some ⟨b, o, s⟩) len (aT + sz), x] h R ↔ R (eB h.nx o (len + n) (aT + sz)) (h.grown b o ty c (o + len * sz) (o + (len + n) * sz) xs) := cm fun k => by
 rw [uI hx h1 hz]
 show (bif Nat.beq n 0 then k (.slice (some ⟨b, o, none⟩) len (aT + sz)) h else fN (Nat.add len n) fun gp => iff (Nat.ble gp 1048576) (bif Nat.ble aT (aT + sz) then Dr h ty sz xs b o len (aT + sz) gp k else _)) = _
 have e : Nat.ble (len + n) 1048576 = true := by rw [Nat.ble_eq]; exact hb
 have e2 : Nat.ble aT (aT + sz) = true := by rw [Nat.ble_eq]; omega
 rw [ep (show n ≠ 0 by omega)]
 simp only [cond_false]
 rw [bH, show Nat.add len n = len + n from rfl, e, eA, e2]
 simp only [cond_true]
 unfold Dr
 have e3 : Nat.beq (aT + sz) (Nat.add aT sz) = true := by rw [Nat.beq_eq]; rfl
 rw [e3, eA]
 unfold ko
 rw [sh hg]
 show iff (true && Nat.beq ty ty && Nat.ble lo o && Nat.ble (Nat.add o (Nat.mul len sz)) hi && cB xs) _ = _
 have e4 : (true && Nat.beq ty ty && Nat.ble lo o && Nat.ble (Nat.add o (Nat.mul len sz)) hi && cB xs) = true := by
  simp only [Bool.and_eq_true, Nat.ble_eq, Nat.beq_eq]; exact ⟨⟨⟨⟨trivial, trivial⟩, nV⟩, Li⟩, ha⟩
 rw [e4, eA, TT, bH, Ef, bH, KL]
 rfl
theorem adw (hx : ∀ k : Nat → List Value → Bool, kp h sz x k = k n xs) (h1 : 1 ≤ sz) (hz : zero.length = sz) (hn : 0 < n) {b o len cap : Nat} {s : Option Nat} {old : List Value} (hb : len + n ≤ 1048576) (hc : cap < len + n) (ha : cB (old ++ xs) = true)
 (hl : 0 < len) (hr : h.aW b o old) (ho : old.length = len * sz) :
 WP (.append ty sz zero) [.slice (some ⟨b, o, s⟩) len cap, x] h R ↔ R (eB h.nx 0 (len + n) (aT + sz)) (h.new ty (old ++ xs)) := cm fun k => by
 rw [uI hx h1 hz]
 show (bif Nat.beq n 0 then k (.slice (some ⟨b, o, none⟩) len cap) h else fN (Nat.add len n) fun gp => iff (Nat.ble gp 1048576) (bif Nat.ble aT cap then _ else bif Nat.ble gp cap then _ else bif Nat.beq len 0 then _ else j9 h b o (Nat.mul len sz) fun old => gi old xs fun l => jv h ty l fun b' h => fN (Nat.add aT sz) fun cp => k (.slice (some ⟨b', 0, none⟩) gp cp) h)) = _
 have e : Nat.ble (len + n) 1048576 = true := by rw [Nat.ble_eq]; exact hb
 have e2 : Nat.ble aT cap = false := by
  have : ¬ aT ≤ cap := by unfold aT; omega
  cases hh : Nat.ble aT cap with
  | false => rfl
  | true => rw [Nat.ble_eq] at hh; exact absurd hh this
 have e3 : Nat.ble (len + n) cap = false := by
  cases hh : Nat.ble (len + n) cap with
  | false => rfl
  | true => rw [Nat.ble_eq] at hh; omega
 rw [ep (show n ≠ 0 by omega)]
 simp only [cond_false]
 rw [bH, show Nat.add len n = len + n from rfl, e, eA, e2, e3, ep (show len ≠ 0 by omega)]
 simp only [cond_false]
 have mW : 0 < len * sz := Nat.mul_pos hl h1
 rw [show Nat.mul len sz = len * sz from rfl, KM hr ho mW, sd, uH h ty ha, bH]
 rfl
end
theorem adx : WP .mkMap [] h R ↔ R (.map (some h.nx)) (h.dH (.map [] 0)) := cm fun k => by
 show kj h (.map [] 0) (fun b h => k (.map (some b)) h) = _
 rw [zS]
end
end
end Go.Ve
namespace Go.Ve
open Go.RowKit
open Classical
noncomputable section
def AH.nW (h : AH) (b : Nat) : Nat → Nat → Option (List Value)
 | _, 0 => some []
 | o, n + 1 => match h.rd b o with
  | none => none
  | some v => match h.nW b (o + 1) n with
   | none => none
   | some l => some (v :: l)
theorem AH.TV {h : AH} {b : Nat} : ∀ {n o : Nat} {l : List Value}, h.nW b o n = some l → l.length = n ∧ h.aW b o l
 | 0, o, l, e => by cases e; exact ⟨rfl, AH.KH h b o⟩
 | n + 1, o, l, e => by
  unfold AH.nW at e
  split at e
  · cases e
  · rename_i v hv
    split at e
    · cases e
    · rename_i m hm
      cases e
      obtain ⟨h1, h2⟩ := AH.TV hm
      exact ⟨by simp [h1], AH.TJ.2 ⟨hv, h2⟩⟩
theorem AH.TW {h : AH} {b : Nat} : ∀ {l : List Value} {n o : Nat}, l.length = n → h.aW b o l → h.nW b o n = some l
 | [], n, o, hn, _ => by subst hn; rfl
 | v :: l, n, o, hn, hr => by
  subst hn
  obtain ⟨h1, h2⟩ := AH.TJ.1 hr
  show (match h.rd b o with | none => none | some v => match h.nW b (o + 1) l.length with | none => none | some l => some (v :: l)) = _
  rw [h1, AH.TW rfl h2]
theorem AH.Lj (h : AH) (b o : Nat) : h.nW b o 0 = some [] := rfl
theorem AH.Lk (h : AH) (b o n : Nat) : h.nW b o (n + 1) = (h.rd b o).bind fun v => (h.nW b (o + 1) n).map (v :: ·) := by
 show (match h.rd b o with | none => none | some v => match h.nW b (o + 1) n with | none => none | some l => some (v :: l)) = _
 cases h.rd b o with
 | none => rfl
 | some v => cases h.nW b (o + 1) n <;> rfl
theorem AH.Ex (h : AH) (ty : TypeId) (l : List Value) (b o n : Nat) : (h.new ty l).can b o n ↔ (if b = h.nx then o + n ≤ l.length else h.can b o n) := by
 by_cases e : b = h.nx
 · subst e
   rw [if_pos rfl]
   constructor
   · rintro ⟨lo, hi, bI, c, h1, h2, h3⟩
     have gg : (h.ob.set h.nx (some (.cells 0 l.length ty true (ik .e 0 l)))).get h.nx = some (.cells lo hi bI true c) := h1
     rw [NT.cQ, if_pos rfl] at gg
     cases gg; exact h3
   · exact fun hn => AH.TH h ty l hn
 · rw [if_neg e]
   constructor
   · rintro ⟨lo, hi, bI, c, h1, h2, h3⟩
     have gg : (h.ob.set h.nx (some (.cells 0 l.length ty true (ik .e 0 l)))).get b = some (.cells lo hi bI true c) := h1
     rw [NT.cQ, if_neg e] at gg
     exact ⟨lo, hi, bI, c, gg, h2, h3⟩
   · exact fun H => AH.ac0 ty l H e
theorem AH.Ll (h : AH) (b o : Nat) (l : List Value) (b' o' n' : Nat) : (h.wr b o l).can b' o' n' ↔ h.can b' o' n' := by
 refine ⟨fun H => ?_, AH.TI⟩
 by_cases e : b' = b
 · subst e
   obtain ⟨lo, hi, ty, c, h1, h2, h3⟩ := H
   unfold AH.wr at h1
   split at h1
   · rename_i si cI bI ll c' heq
     have gg : (h.ob.set b' (some (.cells si cI bI ll (ik c' o l)))).get b' = some (.cells lo hi ty true c) := h1
     rw [NT.cQ, if_pos rfl] at gg
     cases gg
     exact ⟨lo, hi, ty, c', heq, h2, h3⟩
   · exact ⟨lo, hi, ty, c, h1, h2, h3⟩
 · obtain ⟨lo, hi, ty, c, h1, h2, h3⟩ := H
   rw [AH.sf h e] at h1
   exact ⟨lo, hi, ty, c, h1, h2, h3⟩
theorem AH.Lm {h : AH} {b o : Nat} {l : List Value} (H : h.can b o l.length) (b' o' : Nat) : (h.wr b o l).rd b' o' = if b' = b ∧ o ≤ o' ∧ o' < o + l.length then l[o' - o]? else h.rd b' o' := AH.wM H (Nat.le_refl _) b' o'
section
variable {h : AH} {R : Value → AH → Prop}
theorem Ln {b o : Nat} {s : Option Nat} : WP .aB [.pointer (some ⟨b, o, s⟩)] h R ↔ ∃ v, h.rd b o = some v ∧ R v h := by
 constructor
 · intro H
   have e : oV h b o (fun v => decide (R v h)) = true := H (fun v h => decide (R v h)) fun _ _ hr => decide_eq_true hr
   obtain ⟨lo, hi, ty, rw, c, v, h1, h2, h3, h4, h5⟩ := Dh e
   refine ⟨v, ?_, of_decide_eq_true h5⟩
   unfold AH.rd
   rw [h1]
   show (if lo ≤ o ∧ o + 1 ≤ hi then c.get o else none) = some v
   rw [if_pos ⟨h2, h3⟩, h4]
 · rintro ⟨v, h1, h2⟩; exact (Ek h1).2 h2
theorem kX {b o n : Nat} {s : Option Nat} (h0 : 0 < n) : WP (.bB n) [.pointer (some ⟨b, o, s⟩)] h R ↔ ∃ l, h.nW b o n = some l ∧ R (.agg ⟨l⟩) h := by
 constructor
 · intro H
   have e : j9 h b o n (fun l => decide (R (.agg ⟨l⟩) h)) = true := H (fun v h => decide (R v h)) fun _ _ hr => decide_eq_true hr
   obtain ⟨lo, hi, ty, rw, c, l, h1, h2, h3, h4, h5, h6⟩ := ry e
   refine ⟨l, AH.TW h4 fun i v hv => ?_, of_decide_eq_true h6⟩
   have cI : i < n := by have := (List.getElem?_eq_some_iff.1 hv).1; omega
   unfold AH.rd
   rw [h1]
   show (if lo ≤ o + i ∧ o + i + 1 ≤ hi then c.get (o + i) else none) = some v
   rw [if_pos ⟨by omega, by omega⟩, h5 i v hv]
 · rintro ⟨l, h1, h2⟩
   obtain ⟨h3, h4⟩ := AH.TV h1
   exact (El h4 h3 h0).2 h2
theorem Lo {b o n : Nat} {s : Option Nat} {v : Value} : WP (.store n) [.pointer (some ⟨b, o, s⟩), v] h R ↔ (cellsOf v).length = n ∧ cB (cellsOf v) = true ∧ h.can b o n ∧ R undef (h.wr b o (cellsOf v)) := by
 constructor
 · intro H
   have e : iff (gE (cellsOf v) n) (o4 h b o (cellsOf v) fun h => decide (R undef h)) = true := H (fun v h => decide (R v h)) fun _ _ hr => decide_eq_true hr
   obtain ⟨h1, h2⟩ := bJ e
   rw [sj, decide_eq_true_eq] at h1
   have hc : h.can b o (cellsOf v).length ∧ cB (cellsOf v) = true := by
    obtain ⟨lo, hi, ty, rw, c, g1, g2⟩ := qz (show ko h b _ = true from h2)
    obtain ⟨g3, g4⟩ := bJ g2
    simp only [Bool.and_eq_true] at g3
    obtain ⟨⟨⟨r1, r2⟩, r3⟩, r4⟩ := g3
    subst r1
    exact ⟨⟨lo, hi, ty, c, g1, Nat.le_of_ble_eq_true r2, Nat.le_of_ble_eq_true r3⟩, r4⟩
   rw [KN hc.1 hc.2] at h2
   exact ⟨h1, hc.2, h1 ▸ hc.1, of_decide_eq_true h2⟩
 · rintro ⟨h1, h2, h3, h4⟩
   exact (Em h3 h1 h2).2 h4
theorem Ey {l : List Value} {i : Nat} : WP (.extract i) [.tuple ⟨l⟩] h R ↔ ∃ v, l[i]? = some v ∧ R v h := by
 constructor
 · intro H
   have e : mR l i (fun v => decide (R v h)) = true := H (fun v h => decide (R v h)) fun _ _ hr => decide_eq_true hr
   cases hv : l[i]? with
   | some v => rw [En hv] at e; exact ⟨v, rfl, of_decide_eq_true e⟩
   | none =>
    exfalso
    clear H
    induction l generalizing i with
    | nil => cases e
    | cons x l ih => cases i with
     | zero => simp at hv
     | succ i => exact ih (show mR l i _ = true from e) (by simpa using hv)
 · rintro ⟨v, h1, h2⟩; exact (jd h1).2 h2
theorem Lp {l : List Value} {i : Nat} : WP (.Io i) [.agg ⟨l⟩] h R ↔ ∃ v, l[i]? = some v ∧ R v h :=
 (show WP (.Io i) [.agg ⟨l⟩] h R ↔ WP (.extract i) [.tuple ⟨l⟩] h R from Iff.rfl).trans Ey
end
theorem Lq (k : IntKind) (n : Int) : dR (.int k n) = true := rfl
theorem Lr (b : Bool) : dR (.bool b) = true := rfl
theorem Ls (s : ByteArray) : dR (.string s) = true := rfl
theorem Lt (a : Option Addr) : dR (.pointer a) = true := rfl
theorem Lu (a : Option Addr) (n c : Nat) : dR (.slice a n c) = true := rfl
theorem Lv (a : Option Nat) : dR (.map a) = true := rfl
theorem Lw (f : Fn) (a b : Array Value) : dR (.func f a b) = true := rfl
theorem bh (l : List Value) : cellsOf (.agg ⟨l⟩) = l := rfl
theorem bj (k : IntKind) (n : Int) : cellsOf (.int k n) = [.int k n] := rfl
theorem bn (b : Bool) : cellsOf (.bool b) = [.bool b] := rfl
theorem bo (s : ByteArray) : cellsOf (.string s) = [.string s] := rfl
theorem Lx (a : Option Addr) : cellsOf (.pointer a) = [.pointer a] := rfl
theorem Ly (a : Option Addr) (n c : Nat) : cellsOf (.slice a n c) = [.slice a n c] := rfl
theorem Lz (a : Option Nat) : cellsOf (.map a) = [.map a] := rfl
theorem LA (f : Fn) (a b : Array Value) : cellsOf (.func f a b) = [.func f a b] := rfl
theorem nX {v : Value} (h : dR v = true) : cellsOf v = [v] := by
 cases v <;> first | rfl | cases h
theorem LB : cB [] = true := rfl
theorem su (v : Value) (l : List Value) : cB (v :: l) = (dR v && cB l) := by
 show (bif dR v then cB l else false) = _
 cases dR v <;> rfl
def jP (l : List Value) (o : Nat) (m : List Value) : List Value := l.take o ++ m ++ l.drop (o + m.length)
def jQ : List Value → List (Nat × Nat) → List Value → Option (List Value)
 | l, [], [] => some l
 | l, (o, n) :: ps, v :: vs => if (cellsOf v).length = n ∧ o + n ≤ l.length then jQ (jP l o (cellsOf v)) ps vs else none
 | _, _, _ => none
theorem TX : ∀ {l m : List Value} (_ : m.length ≤ l.length) (k : List Value → Bool), ki l m k = k (m ++ l.drop m.length)
 | [], [], _, k => rfl
 | [], v :: m, h, k => by simp at h
 | x :: l, [], h, k => rfl
 | x :: l, v :: m, h, k => by
  show ki l m (fun l' => k (v :: l')) = _
  rw [TX (by simpa using h)]; simp
theorem LC : ∀ {l : List Value} {o : Nat} {m : List Value} (_ : o + m.length ≤ l.length) (k : List Value → Bool), mE l o m k = k (jP l o m)
 | [], 0, [], h, k => rfl
 | [], 0, v :: m, h, k => by simp at h
 | [], o + 1, m, h, k => by simp at h
 | x :: l, 0, m, h, k => by
  show ki (x :: l) m k = _
  rw [TX (by omega)]; unfold jP; rw [List.take_zero, List.nil_append, Nat.zero_add]
 | x :: l, o + 1, m, h, k => by
  show mE l o m (fun l' => k (x :: l')) = _
  rw [LC (by simp at h; omega)]
  unfold jP
  rw [show o + 1 + m.length = (o + m.length) + 1 by omega]
  rfl
theorem LD : ∀ {ps : List (Nat × Nat)} {l vs m : List Value} (_ : jQ l ps vs = some m) (k : List Value → Bool), ia l ps vs k = k m
 | [], l, [], m, e, k => by cases e; rfl
 | [], l, v :: vs, m, e, k => by cases e
 | (o, n) :: ps, l, [], m, e, k => by cases e
 | (o, n) :: ps, l, v :: vs, m, e, k => by
  unfold jQ at e
  split at e
  · rename_i hc
    show (bif gE (cellsOf v) n then mE l o (cellsOf v) fun l' => ia l' ps vs k else false) = _
    rw [sj, decide_eq_true hc.1]
    simp only [cond_true]
    rw [LC (by rw [hc.1]; exact hc.2), LD e]
  · cases e
def cC : List Nat → List Value → Bool
 | [], [] => true
 | n :: ns, v :: vs => decide ((cellsOf v).length = n) && cC ns vs
 | _, _ => false
theorem TY : ∀ {ss : List Nat} {vs : List Value}, cC ss vs = true → ss = vs.map fun v => (cellsOf v).length
 | [], [], _ => rfl
 | n :: ns, v :: vs, e => by
  unfold cC at e
  rw [Bool.and_eq_true, decide_eq_true_eq] at e
  rw [List.map_cons, TY e.2, e.1]
 | [], _ :: _, e => by cases e
 | _ :: _, [], e => by cases e
section
variable {h : AH} {R : Value → AH → Prop}
theorem Ez {ss : List Nat} {vs : List Value} (hs : cC ss vs = true) : WP (.cX ss) vs h R ↔ R (.agg ⟨vs.flatMap cellsOf⟩) h := ada (TY hs)
theorem fW {zero l : List Value} {ps : List (Nat × Nat)} {vs : List Value} (hf : jQ zero ps vs = some l) : WP (.build zero ps) vs h R ↔ R (.agg ⟨l⟩) h := adm (LD hf)
theorem ady {ty : TypeId} {n : Nat} {cells l : List Value} {ps : List (Nat × Nat)} {vs : List Value} (hf : jQ cells ps vs = some l) (ha : cB l = true) : WP (.buildSlice ty n cells ps) vs h R ↔ R (eB h.nx 0 n n) (h.new ty l) := adn (LD hf) ha
end
theorem LF : ∀ {l m : List Value} {k : List Value → Bool}, ki l m k = true → m.length ≤ l.length
 | [], [], k, _ => Nat.le_refl _
 | [], v :: m, k, h => by cases h
 | x :: l, [], k, _ => Nat.zero_le _
 | x :: l, v :: m, k, h => by
  have := LF (show ki l m (fun l' => k (v :: l')) = true from h)
  simpa using this
theorem TZ : ∀ {l : List Value} {o : Nat} {m : List Value} {k : List Value → Bool}, mE l o m k = true → o + m.length ≤ l.length
 | [], 0, m, k, h => by have := LF (show ki [] m k = true from h); simpa using this
 | [], o + 1, m, k, h => by cases h
 | x :: l, 0, m, k, h => by have := LF (show ki (x :: l) m k = true from h); omega
 | x :: l, o + 1, m, k, h => by
  have := TZ (show mE l o m (fun l' => k (x :: l')) = true from h)
  simp only [List.length_cons]; omega
theorem T0 : ∀ {ps : List (Nat × Nat)} {l vs : List Value} {k : List Value → Bool}, ia l ps vs k = true → ∃ m, jQ l ps vs = some m ∧ k m = true
 | [], l, [], k, h => ⟨l, rfl, h⟩
 | [], l, v :: vs, k, h => by cases h
 | (o, n) :: ps, l, [], k, h => by cases h
 | (o, n) :: ps, l, v :: vs, k, h => by
  have h' : (bif gE (cellsOf v) n then mE l o (cellsOf v) fun l' => ia l' ps vs k else false) = true := h
  cases hl : gE (cellsOf v) n with
  | false => rw [hl] at h'; cases h'
  | true =>
   rw [hl] at h'
   have h2 : mE l o (cellsOf v) (fun l' => ia l' ps vs k) = true := h'
   rw [sj, decide_eq_true_eq] at hl
   have h3 := TZ h2
   rw [LC h3] at h2
   obtain ⟨m, h4, h5⟩ := T0 h2
   refine ⟨m, ?_, h5⟩
   unfold jQ
   rw [if_pos ⟨hl, by rw [← hl]; exact h3⟩]; exact h4
section
variable {h : AH} {R : Value → AH → Prop}
theorem LG {zero : List Value} {ps : List (Nat × Nat)} {vs : List Value} : WP (.build zero ps) vs h R ↔ ∃ l, jQ zero ps vs = some l ∧ R (.agg ⟨l⟩) h := by
 constructor
 · intro H
   obtain ⟨m, h1, h2⟩ := T0 (show ia zero ps vs (fun l => decide (R (.agg ⟨l⟩) h)) = true from H (fun v h => decide (R v h)) fun _ _ hr => decide_eq_true hr)
   exact ⟨m, h1, of_decide_eq_true h2⟩
 · rintro ⟨l, h1, h2⟩; exact (fW h1).2 h2
end
theorem LH {sz : Nat} : ∀ {l : List (List Value)} {i : Nat} {x : List Value}, (∀ x ∈ l, x.length = sz) → l[i]? = some x → ∀ j v, x[j]? = some v → l.flatten[i * sz + j]? = some v
 | [], i, x, _, e, j, v, hv => by simp at e
 | y :: l, 0, x, hs, e, j, v, hv => by
  simp at e; subst e
  have : j < y.length := (List.getElem?_eq_some_iff.1 hv).1
  simp [List.getElem?_append_left this, hv]
 | y :: l, i + 1, x, hs, e, j, v, hv => by
  have h1 := hs y List.mem_cons_self
  have := LH (fun x hx => hs x (List.mem_cons_of_mem _ hx)) (show l[i]? = some x by simpa using e) j v hv
  rw [List.flatten_cons, List.getElem?_append_right (by rw [h1, Nat.add_mul]; omega), h1]
  rw [show (i + 1) * sz + j - sz = i * sz + j by rw [Nat.add_mul]; omega]
  exact this
end
end Go.Ve
