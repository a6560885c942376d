/- Part 12: VEval, part 52: for whatever can be read as plain data there is an abstract heap that stands for it. Condition: the types are plain. And what follows it. -/
import Derived.Test.YteeibihhdldjfaaGreatDoorVeK
import Derived.DataReads
set_option linter.unusedVariables false
set_option linter.unusedSimpArgs false
namespace Go.Ve
open Go.ChangeShapes Go.WideShapes Go.ChangeAt Go.RowKit
section
variable {H : Type} {enc : TypeId × Value → H} {P : Program}
def BW (P : Program) : Nat → List Field → Nat → Bool
 | o, [], n => o == n
 | o, f :: fs, n => f.offset == o && BW P (o + P.cellsOf f.type) fs n
def tE (P : Program) : Nat → TypeId → Bool
 | 0, _ => false
 | n + 1, t => match P.underlying t with
  | some .bool => true
  | some (.int _) => true
  | some .string => true
  | some (.slice e) => decide (0 < P.cellsOf e) && tE P n e
  | some (.struct fs) => BW P 0 fs.toList (P.cellsOf t) && fs.toList.all fun f => tE P n f.type
  | some (.array k e) => (k * P.cellsOf e == P.cellsOf t) && tE P n e
  | _ => false
def yO (P : Program) (W : World) (t : TypeId) (cy : List Value) (d : DataW H) : Prop :=
 ∀ (φ : aK) (h : AH), HR P W φ h W → ∃ φ' h' cs, HR P W φ' h' W ∧ Ext h.nx φ φ' ∧ dv h h' ∧ LR φ' cs cy ∧ AD P h' t cs d
theorem Yh {W : World} {t : TypeId} : ∀ (l : List (List Value × DataW H)), (∀ x ∈ l, yO P W t x.1 x.2) → ∀ (φ : aK) (h : AH), HR P W φ h W →
 ∃ (φ' : aK) (h' : AH) (cX : List (List Value)), HR P W φ' h' W ∧ Ext h.nx φ φ' ∧ dv h h' ∧ cX.length = l.length ∧ ∀ (i : Nat) (cs : List Value) (x : List Value × DataW H), cX[i]? = some cs → l[i]? = some x → LR φ' cs x.1 ∧ AD P h' t cs x.2 := by
 intro l
 induction l with
 | nil => intro _ φ h R; exact ⟨φ, h, [], R, Ext.refl _ _, dv.refl _, rfl, fun i cs x h1 => by simp at h1⟩
 | cons x l ih =>
  intro fV φ h R
  obtain ⟨φ1, h1, cs, R1, E1, K1, L1, A1⟩ := fV x List.mem_cons_self φ h R
  obtain ⟨φ2, h2, cX, R2, E2, K2, hl, hA⟩ := ih (fun y hy => fV y (List.mem_cons_of_mem _ hy)) φ1 h1 R1
  refine ⟨φ2, h2, cs :: cX, R2, E1.trans E2 K1.nx, K1.trans K2, by simp [hl], fun i c y g1 g2 => ?_⟩
  cases i with
  | zero =>
   simp at g1 g2
   subst g1; subst g2
   exact ⟨LR.ext E2 L1, A1.cB K2 R1.top⟩
  | succ i => exact hA i c y (by simpa using g1) (by simpa using g2)
theorem Hz {α : Type} : ∀ (cX : List (List α)) (z : Nat), (∀ cs ∈ cX, cs.length = z) → ∀ (i j : Nat) (cs : List α), cX[i]? = some cs → j < z → cX.flatten[i * z + j]? = cs[j]?
 | [], z, _, i, j, cs, h, _ => by simp at h
 | c :: cX, z, hz, 0, j, cs, h, hj => by
  simp at h; subst h
  have : c.length = z := hz c List.mem_cons_self
  rw [List.flatten_cons, Nat.zero_mul, Nat.zero_add, List.getElem?_append_left (by omega)]
 | c :: cX, z, hz, i + 1, j, cs, h, hj => by
  have hc : c.length = z := hz c List.mem_cons_self
  rw [List.flatten_cons, List.getElem?_append_right (by rw [hc, Nat.add_mul]; omega)]
  have := Hz cX z (fun x hx => hz x (List.mem_cons_of_mem _ hx)) i j cs (by simpa using h) hj
  rw [← this]
  congr 1
  rw [hc, Nat.add_mul]; omega
theorem PA {α : Type} : ∀ (cX : List (List α)) (z : Nat), (∀ cs ∈ cX, cs.length = z) → cX.flatten.length = cX.length * z
 | [], z, _ => by simp
 | c :: cX, z, hz => by
  rw [List.flatten_cons, List.length_append, PA cX z (fun x hx => hz x (List.mem_cons_of_mem _ hx)), hz c List.mem_cons_self, List.length_cons, Nat.add_mul]; omega
theorem ahp {W : World} {cy : List Value} {n : Nat} (eK : cy.length = n) : ∀ (fs : List Field) (ds : List (DataW H)) (o : Nat), BW P o fs n = true → ds.length = fs.length →
    (∀ (i : Nat) (f : Field) (d : DataW H), fs[i]? = some f → ds[i]? = some d → yO P W f.type ((cy.drop f.offset).take (P.cellsOf f.type)) d) → ∀ (φ : aK) (h : AH), HR P W φ h W →
    ∃ φ' h' cs, HR P W φ' h' W ∧ Ext h.nx φ φ' ∧ dv h h' ∧ o ≤ n ∧ LR φ' cs (cy.drop o) ∧ ∀ (i : Nat) (f : Field) (d : DataW H), fs[i]? = some f → ds[i]? = some d → o ≤ f.offset ∧ AD P h' f.type ((cs.drop (f.offset - o)).take (P.cellsOf f.type)) d := by
  intro fs
  induction fs with
  | nil =>
    intro ds o ht hl _ φ h R
    simp only [BW, beq_iff_eq] at ht
    exact ⟨φ, h, [], R, Ext.refl _ _, dv.refl _, by omega, by rw [List.drop_eq_nil_of_le (by omega)]; exact .nil, fun i f d h1 => by simp at h1⟩
  | cons f fs ih =>
    intro ds o ht hl fV φ h R
    simp only [BW, Bool.and_eq_true, beq_iff_eq] at ht
    obtain ⟨ho, ht⟩ := ht
    cases ds with
    | nil => simp at hl
    | cons d ds =>
      obtain ⟨φ1, h1, c1, R1, E1, K1, L1, A1⟩ := fV 0 f d rfl rfl φ h R
      obtain ⟨φ2, h2, c2, R2, E2, K2, hon, L2, A2⟩ := ih ds (o + P.cellsOf f.type) ht (by simpa using hl) (fun i f' d' g1 g2 => fV (i + 1) f' d' (by simpa using g1) (by simpa using g2)) φ1 h1 R1
      rw [ho] at L1
      have hlen : c1.length = P.cellsOf f.type := by
        rw [L1.length, List.length_take, List.length_drop]; omega
      refine ⟨φ2, h2, c1 ++ c2, R2, E1.trans E2 K1.nx, K1.trans K2, by omega, ?_, fun i f' d' g1 g2 => ?_⟩
      · have : cy.drop o = (cy.drop o).take (P.cellsOf f.type) ++ cy.drop (o + P.cellsOf f.type) := by
          rw [← List.drop_drop, List.take_append_drop]
        rw [this]
        exact LR.append L2 (LR.ext E2 L1)
      · cases i with
        | zero =>
          simp at g1 g2
          subst g1; subst g2
          refine ⟨by omega, ?_⟩
          rw [ho, Nat.sub_self, List.drop_zero, List.take_append_of_le_length (by omega), List.take_of_length_le (by omega)]
          exact A1.cB K2 R1.top
        | succ i =>
          obtain ⟨a1, a2⟩ := A2 i f' d' (by simpa using g1) (by simpa using g2)
          refine ⟨by omega, ?_⟩
          rw [List.drop_append, List.drop_eq_nil_of_le (by omega), List.nil_append]
          rw [show f'.offset - o - c1.length = f'.offset - (o + P.cellsOf f.type) by omega]
          exact a2
theorem ahq {W : World} {t e : TypeId} {a : Addr} {len cap : Nat} {gN rest : List (DataW H)} (hu : P.underlying t = some (.slice e)) (hz : 0 < P.cellsOf e) (hlen : len ≤ cap) (iu : cap ≤ maxLen) (hn : gN.length = len) (hr : rest.length = cap - len)
 (BX : ∀ (i : Nat) (d : DataW H), (gN ++ rest)[i]? = some d → ∃ cy, W.cells? 0 (a.add (i * P.cellsOf e)) (P.cellsOf e) = some cy ∧ yO P W e cy d) : yO P W t [.slice (some a) len cap] (.slice gN rest) := by
 intro φ h R
 have ahr : cap < aY := Nat.lt_of_le_of_lt iu (by decide)
 rcases Nat.eq_zero_or_pos cap with h0 | h0
 · -- no cell at all
   obtain ⟨R1, E1, K1⟩ := R.aho
   have he : gN = [] := List.eq_nil_of_length_eq_zero (by omega)
   have rn : rest = [] := List.eq_nil_of_length_eq_zero (by omega)
   subst he; subst rn
   have jY : len = 0 := by omega
   subst jY; subst h0
   refine ⟨_, _, [.slice (some ⟨h.nx, 0, none⟩) 0 0], R1, E1, K1, .cons _ _ _ _ (.sl _ _ _ _ _ (by simp [aK.put]) (.inl ⟨by decide, rfl, Nat.le_refl _, fun hh => absurd hh (Nat.lt_irrefl 0)⟩)) .nil, ?_⟩
   exact .sl t e h.nx 0 0 0 [] [] [] hu rfl (Nat.le_refl _) (Nat.zero_le _) rfl (fun cs eK => by cases eK) (AH.Oo _ _ _) (fun i cs d h1 => by simp at h1)
 · have fV : (gN ++ rest).length = cap := by rw [List.length_append]; omega
   obtain ⟨d0, pZ⟩ : ∃ d, (gN ++ rest)[0]? = some d := ⟨(gN ++ rest)[0]'(by omega), List.getElem?_eq_getElem (by omega)⟩
   obtain ⟨c0, uZ, _⟩ := BX 0 d0 pZ
   obtain ⟨_, anX, ahs⟩ := World.cells?_some uZ
   have nq := ahs 0 hz
   rw [show (a.add (0 * P.cellsOf e)).add 0 = a by rw [Nat.zero_mul]; rfl] at nq
   have aht : c0[0]? = some (c0[0]'(by omega)) := List.getElem?_eq_getElem (by omega)
   rw [aht] at nq
   obtain ⟨arr, ty, fr, hw, HA⟩ : ∃ arr ty fr, W.heap[a.block]? = some (.cells arr ty fr) ∧ a.spot = none := by
    unfold World.cell? at nq
    split at nq
    · rename_i arr ty fr hh
      refine ⟨arr, ty, fr, hh, ?_⟩
      split at nq
      · cases nq
      · rename_i hs; simpa using hs
    · cases nq
   have ahu : ∀ (j : Nat), W.cell? (a.add j) = arr[a.off + j]? := by
    intro j
    rw [lU a HA]
    unfold World.cell?
    simp only [hw]; rfl
   have PB : ∀ (i : Nat) (d : DataW H), gN[i]? = some d → ∃ cy, W.cells? 0 (a.add (i * P.cellsOf e)) (P.cellsOf e) = some cy ∧ yO P W e cy d := fun i d hd => BX i d (by rw [List.getElem?_append_left (List.getElem?_eq_some_iff.1 hd).1]; exact hd)
   let l : List (List Value × DataW H) := (List.range len).map fun i => ((W.cells? 0 (a.add (i * P.cellsOf e)) (P.cellsOf e)).getD [], gN.getD i .nil)
   have kK : l.length = len := by simp [l]
   have og : ∀ (i : Nat) (d : DataW H), gN[i]? = some d → l[i]? = some ((W.cells? 0 (a.add (i * P.cellsOf e)) (P.cellsOf e)).getD [], d) := by
    intro i d hd
    have hi : i < len := by rw [← hn]; exact (List.getElem?_eq_some_iff.1 hd).1
    simp [l, hi, List.getD, hd]
   obtain ⟨φ1, h1, cX, R1, E1, K1, jX, hA⟩ := Yh (P := P) (W := W) (t := e) l (fun x hx => by
    obtain ⟨i, hi⟩ := List.getElem?_of_mem hx
    have tF : i < len := by rw [← kK]; exact (List.getElem?_eq_some_iff.1 hi).1
    have hd : gN[i]? = some (gN[i]'(by omega)) := List.getElem?_eq_getElem (by omega)
    obtain ⟨cy, g1, g2⟩ := PB i _ hd
    rw [og i _ hd] at hi
    cases hi
    rw [g1]
    exact g2) φ h R
   have pR : ∀ cs ∈ cX, cs.length = P.cellsOf e := by
    intro cs eK
    obtain ⟨i, hi⟩ := List.getElem?_of_mem eK
    have tF : i < len := by rw [← kK, ← jX]; exact (List.getElem?_eq_some_iff.1 hi).1
    have hd : gN[i]? = some (gN[i]'(by omega)) := List.getElem?_eq_getElem (by omega)
    obtain ⟨cy, g1, _⟩ := PB i _ hd
    obtain ⟨L1, _⟩ := hA i cs _ hi (og i _ hd)
    rw [g1] at L1
    rw [L1.length]
    exact (World.cells?_some g1).2.1
   have tp : a.block < W.heap.size := (Array.getElem?_eq_some_iff.1 hw).1
   obtain ⟨h2, R2, E2, K2, n3, jh⟩ := R1.look (o := a.off) (l := cX.flatten) hw tp (fun i v hv => by
    have PC := PA cX _ pR
    have hi : i < cX.length * P.cellsOf e := by rw [← PC]; exact (List.getElem?_eq_some_iff.1 hv).1
    have HB := Nat.div_add_mod i (P.cellsOf e)
    have BZ := Nat.mod_lt i hz
    have hq : i / P.cellsOf e < cX.length := Nat.div_lt_of_lt_mul (by rw [Nat.mul_comm]; exact hi)
    have eK : cX[i / P.cellsOf e]? = some (cX[i / P.cellsOf e]) := List.getElem?_eq_getElem hq
    have B0 := Hz cX _ pR _ (i % P.cellsOf e) _ eK BZ
    rw [show i / P.cellsOf e * P.cellsOf e + i % P.cellsOf e = i by rw [Nat.mul_comm]; exact HB] at B0
    rw [B0] at hv
    have tF : i / P.cellsOf e < len := by omega
    have hd : gN[i / P.cellsOf e]? = some (gN[i / P.cellsOf e]'(by omega)) := List.getElem?_eq_getElem (by omega)
    obtain ⟨cy, g1, _⟩ := PB _ _ hd
    obtain ⟨L1, _⟩ := hA _ _ _ eK (og _ _ hd)
    rw [g1] at L1
    obtain ⟨v', a1, a2⟩ := L1.get _ _ hv
    obtain ⟨_, b1, b2⟩ := World.cells?_some g1
    have b3 := b2 (i % P.cellsOf e) BZ
    have HC : cy[i % P.cellsOf e]? = some v' := a1
    rw [HC] at b3
    refine ⟨v', ?_, a2⟩
    have e1 : (a.add (i / P.cellsOf e * P.cellsOf e)).add (i % P.cellsOf e) = a.add i := by
     rw [lU a HA, lU _ rfl, lU a HA]
     simp only [Addr.mk.injEq, true_and, and_true]
     rw [Nat.mul_comm]; omega
    rw [e1, ahu] at b3
    exact b3)
   refine ⟨_, h2, [.slice (some ⟨h1.nx, a.off, none⟩) len cap], R2, E1.trans E2 K1.nx, K1.trans K2, .cons _ _ _ _ (.sl _ _ _ _ _ (by simp [aK.put]) (.inl ⟨ahr, rfl, hlen, fun _ => ?_⟩)) .nil, ?_⟩
   · intro b d n hl
     have gB : (φ1.put h1.nx (.live a.block 0 arr.size)) h1.nx = some (.live b d n) := hl
     rw [aK.iw] at gB
     cases gB
     exact ⟨rfl, rfl, HA⟩
   · exact .sl t e h1.nx a.off len cap gN rest cX hu hn hlen iu (by omega) pR n3 (fun i cs d g1 g2 => ((hA i cs _ g1 (og i d g2)).2).cB K2 R1.top)
theorem LR.HD {φ : aK} {v : Value} (h : VR φ v v) : LR φ [v] [v] := .cons _ _ _ _ h .nil
theorem Yi {α : Type} {l : List α} {o n j : Nat} (hj : j < n) : ((l.drop o).take n)[j]? = l[o + j]? := by
 rw [List.getElem?_take, if_pos hj, List.getElem?_drop]
theorem ahv {W : World} : ∀ (n : Nat) (t : TypeId) (cy : List Value) (x : DataW H × List MemPlace) (fuel : Nat), tE P n t = true → DataW.trod enc P W 0 (fun _ => true) true fuel t cy = some x → yO P W t cy x.1 := by
  intro n
  induction n with
  | zero => intro t cy x fuel hp; cases hp
  | succ n ih =>
    intro t cy x fuel hp ht
    rw [tE] at hp
    cases hu : P.underlying t with
    | none => rw [hu] at hp; cases hp
    | some ty =>
      rw [hu] at hp
      cases ty <;> first | (exact Bool.noConfusion hp) | skip
      case bool =>
        obtain ⟨b, rfl, rfl⟩ := DataW.trod_bool hu ht
        exact fun φ h R => ⟨φ, h, _, R, Ext.refl _ _, dv.refl _, LR.HD (.bool _), .bool t _ hu⟩
      case int k =>
        obtain ⟨m, rfl, rfl, hw⟩ := DataW.trod_int hu ht
        exact fun φ h R => ⟨φ, h, _, R, Ext.refl _ _, dv.refl _, LR.HD (.int _ _), .int t _ _ hu hw⟩
      case string =>
        obtain ⟨s, rfl, rfl, hs⟩ := DataW.trod_string hu ht
        exact fun φ h R => ⟨φ, h, _, R, Ext.refl _ _, dv.refl _, LR.HD (.str _), .str t _ hu hs⟩
      case slice e =>
        simp only [Bool.and_eq_true, decide_eq_true_eq] at hp
        rcases DataW.trod_slice hu ht with ⟨rfl, rfl⟩ | ⟨a, len, cap, gN, rest, m, _, rfl, rfl, _, Hk, NU, BX, he, hr, _⟩
        · exact fun φ h R => ⟨φ, h, _, R, Ext.refl _ _, dv.refl _, LR.HD .mi, .mi t e hu⟩
        · obtain ⟨hrl, hr⟩ := hr rfl
          refine ahq hu hp.1 Hk NU (by simp [BX]) (by simp [hrl]) fun i d hd => ?_
          rw [← List.map_append, List.getElem?_map, Option.map_eq_some_iff] at hd
          obtain ⟨y, hy, rfl⟩ := hd
          have key : (W.cells? 0 (a.add (i * P.cellsOf e)) (P.cellsOf e)).bind (DataW.trod enc P W 0 (fun _ => true) true m e) = some y := by
            rcases Nat.lt_or_ge i len with h1 | h1
            · rw [he i h1]
              rw [List.getElem?_append_left (by omega)] at hy
              exact hy
            · have hi : i < gN.length + rest.length := by
                have := (List.getElem?_eq_some_iff.1 hy).1; simpa using this
              have := hr (i - len) (by omega)
              rw [show len + (i - len) = i by omega] at this
              rw [this]
              rw [List.getElem?_append_right (by omega), BX] at hy
              exact hy
          rw [Option.bind_eq_some_iff] at key
          obtain ⟨cy, h1, h2⟩ := key
          exact ⟨cy, h1, ih e cy y m hp.2 h2⟩
      case struct fs =>
        simp only [Bool.and_eq_true] at hp
        obtain ⟨xs, m, _, rfl, hl, nu, hx⟩ := DataW.trod_struct hu ht
        intro φ h R
        obtain ⟨φ1, h1, cs, R1, E1, K1, _, L1, A1⟩ := ahp (P := P) (W := W) hl fs.toList (xs.map (·.1)) 0 hp.1 (by simp [nu]) (fun i f d g1 g2 => by
          rw [List.getElem?_map, Option.map_eq_some_iff] at g2
          obtain ⟨y, hy, rfl⟩ := g2
          have g1' : fs[i]? = some f := by simpa using g1
          have := hx i f g1'
          rw [hy] at this
          exact ih f.type _ y m (List.all_eq_true.1 hp.2 f (List.mem_of_getElem? g1)) this) φ h R
        rw [List.drop_zero] at L1
        refine ⟨φ1, h1, cs, R1, E1, K1, L1, .struct t fs cs _ hu (by rw [L1.length]; exact hl) (by simp [nu]) fun i f d g1 g2 => ?_⟩
        have := (A1 i f d (by simpa using g1) g2).2
        rwa [Nat.sub_zero] at this
      case array k e =>
        simp only [Bool.and_eq_true, beq_iff_eq] at hp
        obtain ⟨xs, m, _, rfl, hl, nu, hx⟩ := DataW.trod_array hu ht
        intro φ h R
        let l : List (List Value × DataW H) := (List.range k).map fun i => ((cy.drop (i * P.cellsOf e)).take (P.cellsOf e), (xs.map (·.1)).getD i .nil)
        have og : ∀ (i : Nat) (d : DataW H), (xs.map (·.1))[i]? = some d → l[i]? = some ((cy.drop (i * P.cellsOf e)).take (P.cellsOf e), d) := by
          intro i d hd
          have hi : i < k := by rw [← nu]; have := (List.getElem?_eq_some_iff.1 hd).1; simpa using this
          show ((List.range k).map fun i => ((cy.drop (i * P.cellsOf e)).take (P.cellsOf e), (xs.map (·.1)).getD i .nil))[i]? = _
          rw [List.getElem?_map, List.getElem?_range hi, Option.map_some, List.getD_eq_getElem?_getD, hd]
          rfl
        have kK : l.length = k := by simp [l]
        have PD : ∀ i, i < k → ∃ y, xs[i]? = some y ∧ (xs.map (·.1))[i]? = some y.1 := fun i hi => ⟨xs[i]'(by omega), List.getElem?_eq_getElem (by omega), by rw [List.getElem?_map, List.getElem?_eq_getElem (by omega)]; rfl⟩
        obtain ⟨φ1, h1, cX, R1, E1, K1, jX, hA⟩ := Yh (P := P) (W := W) (t := e) l (fun x fO => by
          obtain ⟨i, hi⟩ := List.getElem?_of_mem fO
          have tF : i < k := by rw [← kK]; exact (List.getElem?_eq_some_iff.1 hi).1
          obtain ⟨y, PE, B1⟩ := PD i tF
          rw [og i _ B1] at hi
          cases hi
          have := hx i tF
          rw [PE] at this
          exact ih e _ y m hp.2 this) φ h R
        have na : ∀ i, i < k → ((cy.drop (i * P.cellsOf e)).take (P.cellsOf e)).length = P.cellsOf e := by
          intro i hi
          rw [List.length_take, List.length_drop, hl, ← hp.1]
          have : (i + 1) * P.cellsOf e ≤ k * P.cellsOf e := Nat.mul_le_mul_right _ hi
          rw [Nat.add_mul] at this
          omega
        have pR : ∀ cs ∈ cX, cs.length = P.cellsOf e := by
          intro cs eK
          obtain ⟨i, hi⟩ := List.getElem?_of_mem eK
          have tF : i < k := by rw [← kK, ← jX]; exact (List.getElem?_eq_some_iff.1 hi).1
          obtain ⟨y, PE, B1⟩ := PD i tF
          obtain ⟨L1, _⟩ := hA i cs _ hi (og i _ B1)
          rw [L1.length]; exact na i tF
        have PC := PA cX _ pR
        have ahw : cX.length = k := by omega
        have Yj : cX.flatten.length = P.cellsOf t := by rw [PC, ahw, hp.1]
        refine ⟨φ1, h1, cX.flatten, R1, E1, K1, LR.L4 (by omega) fun i v v' g1 g2 => ?_, .arr t e k _ _ hu Yj (by simp [nu]) fun i d g => ?_⟩
        · have hi : i < k * P.cellsOf e := by rw [hp.1, ← Yj]; exact (List.getElem?_eq_some_iff.1 g1).1
          have hz : 0 < P.cellsOf e := by
            rcases Nat.eq_zero_or_pos (P.cellsOf e) with h0 | h0
            · rw [h0, Nat.mul_zero] at hi; omega
            · exact h0
          have BZ := Nat.mod_lt i hz
          have hq : i / P.cellsOf e < k := Nat.div_lt_of_lt_mul (by rw [Nat.mul_comm]; exact hi)
          have eK : cX[i / P.cellsOf e]? = some (cX[i / P.cellsOf e]'(by omega)) := List.getElem?_eq_getElem (by omega)
          have B0 := Hz cX _ pR _ (i % P.cellsOf e) _ eK BZ
          have HB := Nat.div_add_mod i (P.cellsOf e)
          rw [show i / P.cellsOf e * P.cellsOf e + i % P.cellsOf e = i by rw [Nat.mul_comm]; exact HB] at B0
          rw [B0] at g1
          obtain ⟨y, PE, B1⟩ := PD _ hq
          obtain ⟨L1, _⟩ := hA _ _ _ eK (og _ _ B1)
          obtain ⟨u, a1, a2⟩ := L1.get _ _ g1
          have HC : ((cy.drop (i / P.cellsOf e * P.cellsOf e)).take (P.cellsOf e))[i % P.cellsOf e]? = some u := a1
          rw [Yi BZ, show i / P.cellsOf e * P.cellsOf e + i % P.cellsOf e = i by rw [Nat.mul_comm]; exact HB, g2] at HC
          cases HC
          exact a2
        · have hi : i < k := by rw [← nu]; have := (List.getElem?_eq_some_iff.1 g).1; simpa using this
          have eK : cX[i]? = some (cX[i]'(by omega)) := List.getElem?_eq_getElem (by omega)
          have e1 : ((cX.flatten.drop (i * P.cellsOf e)).take (P.cellsOf e)) = cX[i]'(by omega) := by
            refine List.ext_getElem? fun j => ?_
            rcases Nat.lt_or_ge j (P.cellsOf e) with hj | hj
            · rw [Yi hj]; exact Hz cX _ pR i j _ eK hj
            · rw [List.getElem?_eq_none (by rw [List.length_take]; omega), List.getElem?_eq_none (by rw [pR _ (List.getElem_mem _)]; omega)]
          rw [e1]
          exact (hA i _ _ eK (og i _ g)).2
end
end Go.Ve
namespace Go.Ve
open Go.RowKit
open Classical
noncomputable section
def AH.lW (h : AH) (b : Nat) (o : AO) : AH := ⟨h.nx, h.ob.set b (some o)⟩
def AH.er (h : AH) (o : AO) : AH := ⟨h.nx + 1, h.ob.set h.nx (some o)⟩
theorem AH.rT (h : AH) (b : Nat) (o : AO) (f : Nat) : (h.lW b o).ob.get f = if f = b then some o else h.ob.get f := by
 show (h.ob.set b (some o)).get f = _
 rw [NT.dc]
theorem AH.qo (h : AH) (o : AO) (f : Nat) : (h.er o).ob.get f = if f = h.nx then some o else h.ob.get f := by
 show (h.ob.set h.nx (some o)).get f = _
 rw [NT.dc]
theorem AH.yF {h : AH} (H : h.Ok) (o : AO) : (h.er o).Ok := fun f hf => by
 have : h.nx + 1 ≤ f := hf
 rw [AH.qo, if_neg (by omega)]
 exact H f (by omega)
theorem AH.Hh {h : AH} (H : h.Ok) {b : Nat} (hb : b < h.nx) (o : AO) : (h.lW b o).Ok := fun f hf => by
 have : h.nx ≤ f := hf
 rw [AH.rT, if_neg (by omega)]
 exact H f this
theorem dv.er (h : AH) (o : AO) : dv h (h.er o) := ⟨Nat.le_succ _, fun f hf => by rw [AH.qo, if_neg (by omega)]⟩
abbrev LO := LoopState → Option Code → AO
def isL (lo : LO) : Prop := ∃ fn tm ps a b d nt, ∀ st pd, lo st pd = .loop ⟨st, pd, fn, tm, ps, a, b, d, nt⟩
def jb : List Nat → W → W
 | [], K => K
 | r :: rs, K => fun h => h.ob.get r = some (.defs false) ∧ jb rs K (h.lW r (.defs true))
def gK (rs : List Nat) : DS := ⟨rs.map .oH, .off⟩
def ox : Value → W := fun _ _ => False
def xl : List (Nat × W) → Nat → W
 | [], _ => fun _ => False
 | (j, A) :: l, id => bif Nat.beq id j then A else xl l id
def sE (pd : Option Code) (N Rt : W) (X : List (Nat × W)) : W := match pd with
 | none => N
 | some .ret => Rt
 | some (.exit id) => xl X id
 | _ => fun _ => False
def qN (lo : LO) (l : Nat) (K : W) : W := fun h => (∃ st pd, h.ob.get l = some (lo st pd)) ∧ K h
def mO (lo : LO) (l : Nat) (K : W) : W := fun h => ∃ pd, h.ob.get l = some (lo .ready pd) ∧ K (h.lW l (lo .busy pd))
def jx (lo : LO) (l : Nat) (st : LoopState) (pd : Option Code) (b : Bool) (R : Value → W) : W := fun h => (∃ s p, h.ob.get l = some (lo s p)) ∧ R (.bool b) (h.lW l (lo st pd))
def yq (R : Value → W) : CR → AH → Prop := fun r h => match r with
 | .ret v => R v h
 | .aP _ => False
def OO (P : Program) (w0 : World) (g : FuncId) (first bR : List Value) (B : LO → Nat → List Value → (Value → W) → W) (E : Value → W) (K : Option Code → W) : W := fun h =>
 ∀ lo : LO, (∀ (l : Nat) (vs : List Value) (R : Value → W) (h : AH), B lo l vs R h → WR P w0 l vs h (yq R)) →
  WF P w0 g (first ++ .func (.yield h.nx) ⟨[]⟩ ⟨[]⟩ :: bR) (h.er (lo .ready none)) fun r h' => match r with
   | .ret _ => ∃ st pd, h'.ob.get h.nx = some (lo st pd) ∧ ND st = true ∧ K pd (h'.lW h.nx (lo .exhausted pd))
   | .aP v => E v h'
def xw (P : Program) (w0 : World) (fv : Value) (B : LO → Nat → List Value → (Value → W) → W) (E : Nat → Value → W) (K : Nat → Option Code → W) : W := match fv with
 | .func (.func g) ⟨first⟩ ⟨bR⟩ => fun h => OO P w0 g first bR B (E h.nx) (K h.nx) (h.er (.defs false))
 | _ => fun _ => False
def zX (F : Value → Value → W) : List Value → W
 | [a, b] => F a b
 | _ => fun _ => False
def Hi (σ : Sl) : List Pos → List Value → Sl
 | [], _ => σ
 | _, [] => σ
 | p :: ps, v :: vs => Hi (σ.up p v) ps vs
section
variable {P : Program} {w0 : World}
theorem BK (h : AH) (o : AO) (k : Nat → AH → Bool) : lu h o k = k h.nx (h.er o) := Ov h o k
theorem yG (h : AH) (b : Nat) (o : AO) (k : AH → Bool) : gz h b (some o) k = k (h.lW b o) := Ou h b (some o) k
theorem Hj {h : AH} {b : Nat} {r : kH} (hr : h.ob.get b = some (.loop r)) (k : kH → Bool) : nh h b k = k r := by
 unfold nh; rw [tu hr]
theorem agU {h : AH} {b : Nat} {t : Bool} (hr : h.ob.get b = some (.defs t)) (k : Bool → Bool) : yf h b k = k t := by
 unfold yf; rw [tu hr]
theorem agV (g : FuncId) (first bR : List Value) (kf : Nat → List Value → List Value → Bool) (ky : Nat → Bool) : sU (.func (.func g) ⟨first⟩ ⟨bR⟩) kf ky = kf g first bR := rfl
theorem XJ : ∀ {ps : List Pos} {vs : List Value} {t : PT} {k : PT → Bool}, ps.length = vs.length → (∀ t' : PT, t'.get = Hi t.get ps vs → k t' = true) → yi ps vs t k = true
 | [], [], t, k, _, hk => hk t rfl
 | p :: ps, v :: vs, t, k, hl, hk => by
  show PT.gL p t v (fun t => yi ps vs t k) = true
  rw [PT.lL]
  refine XJ (by simpa using hl) fun t' sZ => hk t' ?_
  rw [sZ, Sl.Xv]; rfl
def OP (lo : LO) (l : Nat) (R : Value → W) : PQ := fun x _ d h => d.df = [] ∧ (match x with
 | .normal => jx lo l .ready none true R h
 | .ret => jx lo l .done (some .ret) false R h
 | .exit id => jx lo l .done (some (.exit id)) false R h
 | .aP _ => False)
def OQ (P : Program) (w0 : World) (lo : LO) (l : Nat) (b : dh) (e : Env) (R : Value → W) : PQ := fun x σ d h => match x with
 | .normal => mO lo l (fun h => ep P w0 b e σ d h (OP lo l R)) h
 | _ => False
theorem agW (bE : P.follows .mixedOrders = true) {fn : FuncId} {nt : Nat} {tm : PT} {ps : List Pos} {a b : dh} {OS : Nat} {lo : LO} (oW : ∀ st pd, lo st pd = .loop ⟨st, pd, fn, tm, ps, a, b, OS, nt⟩) {l : Nat} {vs : List Value} {h : AH} {R : Value → W}
 (hl : ∃ st pd, h.ob.get l = some (lo st pd)) (hlen : ps.length = vs.length) (H : ep P w0 a ⟨fn, nt, some l⟩ (Hi tm.get ps vs) ⟨[], .off⟩ h (OQ P w0 lo l b ⟨fn, nt, some l⟩ R)) : WR P w0 l vs h (yq R) := by
 obtain ⟨st, pd, hl⟩ := hl
 rw [oW] at hl
 show rk P w0 l vs h (fun r h => decide (yq R r h))
 refine Vn (rec := fE P w0) (BH P w0) ?_
 show nh h l (fun r => yi r.params vs r.tm fun tm => fE P w0 (.code r.assign ⟨r.fn, r.nt, some l⟩ ⟨tm, [], .off, h⟩ (MY (fE P w0) l r _))) = true
 rw [Hj hl]
 refine XJ hlen fun t' sZ => ?_
 refine lA P w0 (dD.vD (fun x s hx => ?_) (G0 bE a H t' sZ))
 have fO := of_decide_eq_true hx
 cases x with
 | normal =>
  obtain ⟨tz, h1, h2⟩ : mO lo l (fun h => ep P w0 b ⟨fn, nt, some l⟩ s.tm.get ⟨s.df, s.rc⟩ h (OP lo l R)) s.h := fO
  rw [oW] at h1
  show nh s.h l (fun r => iff (isReady r.state) (gz s.h l (some (.loop (r.jf .busy r.dR))) fun h => fE P w0 (.code b ⟨fn, nt, some l⟩ ⟨s.tm, s.df, s.rc, h⟩ (Gj l _)))) = true
  rw [Hj h1]
  show iff true (gz s.h l (some (.loop ⟨.busy, tz, fn, tm, ps, a, b, OS, nt⟩)) fun h => fE P w0 (.code b ⟨fn, nt, some l⟩ ⟨s.tm, s.df, s.rc, h⟩ (Gj l fun r h => decide (yq R r h)))) = true
  rw [fF, yG, ← oW]
  refine lA P w0 (dD.vD (fun x s hx => ?_) (G0 bE b h2 s.tm rfl))
  obtain ⟨hd, fO⟩ := of_decide_eq_true hx
  have GO : s.df = [] := hd
  show sY s.df _ = true
  rw [GO]
  have fin : ∀ (j : Option Code) (st : LoopState) (b' : Bool), jx lo l st j b' R s.h → Ba l s.h (fun r h => decide (yq R r h)) j st b' = true := fun j st b' hf => by
   obtain ⟨⟨s1, p1, h3⟩, h4⟩ := hf
   rw [oW] at h3
   show nh s.h l _ = true
   rw [Hj h3]
   show gz s.h l (some (.loop ⟨st, j, fn, tm, ps, a, b, OS, nt⟩)) _ = true
   rw [yG, ← oW]
   exact decide_eq_true h4
  cases x with
  | normal => exact fin _ _ _ fO
  | ret => exact fin _ _ _ fO
  | exit id => exact fin _ _ _ fO
  | aP v => exact fO.elim
 | exit id => exact False.elim fO
 | ret => exact False.elim fO
 | aP v => exact False.elim fO
def OT (Q : PQ) (σ : Sl) (d : DS) (pd : Option Code) (h : AH) : Prop := match pd with
 | none => Q .normal σ d h
 | some .ret => Q .ret σ d h
 | some (.exit id) => Q (.exit id) σ d h
 | _ => False
theorem agX {e : Env} {tm : PT} {df : List fa} {rc : Rc} {ps : List Pos} {a b : dh} {g : FuncId} {first bR : List Value} {h : AH} {dl : Nat} {B : LO → Nat → List Value → (Value → W) → W} {E : Value → W} {K : Option Code → W} {Q : PQ} {s : St} (iU : s.tm = tm) (kg : s.rc = rc)
 (H : OO P w0 g first bR B E K h) (hB : ∀ lo : LO, (∀ st pd, lo st pd = .loop ⟨st, pd, e.fn, tm, ps, a, b, dl, e.nt⟩) → ∀ (l : Nat) (vs : List Value) (R : Value → W) (h : AH), B lo l vs R h → WR P w0 l vs h (yq R))
 (hE : ∀ v h, E v h → Q (.aP v) tm.get ⟨df, rc⟩ h) (hK : ∀ pd h, K pd h → OT Q tm.get ⟨df, rc⟩ pd h) : AR (fE P w0) e s (fun x s => decide (Q x s.tm.get ⟨s.df, s.rc⟩ s.h)) ps a b g first bR h dl df = true := by
 show lu h (.loop ⟨.ready, none, e.fn, s.tm, ps, a, b, dl, e.nt⟩) (fun l h => iv first (.func (.yield l) ⟨[]⟩ ⟨[]⟩ :: bR) fun args => fE P w0 (.call g args h (MA s df _ l))) = true
 rw [BK, tq, iU]
 refine lA P w0 (gR.mono (fun r h' hr => ?_) (H (fun st pd => .loop ⟨st, pd, e.fn, tm, ps, a, b, dl, e.nt⟩) (hB _ fun _ _ => rfl)))
 have oL := of_decide_eq_true hr
 cases r with
 | ret v =>
  obtain ⟨st, pd, h1, h2, h3⟩ := oL
  show nh h' h.nx _ = true
  rw [Hj h1]
  show iff (ND st) (gz h' h.nx (some (.loop ⟨.exhausted, pd, e.fn, tm, ps, a, b, dl, e.nt⟩)) _) = true
  rw [h2, fF, yG]
  have := hK pd _ h3
  unfold OT at this
  unfold F4
  rw [iU, kg]
  split at this
  · exact decide_eq_true this
  · exact decide_eq_true this
  · exact decide_eq_true this
  · exact this.elim
 | aP v =>
  show decide (Q (.aP v) s.tm.get ⟨df, s.rc⟩ h') = true
  rw [iU, kg]
  exact decide_eq_true (hE v h' oL)
theorem agY {Q : PQ} {σ : Sl} {d : DS} {N Rt : W} {X : List (Nat × W)} (hN : ∀ h, N h → Q .normal σ d h) (hR : ∀ h, Rt h → Q .ret σ d h) (hX : ∀ p ∈ X, ∀ h, p.2 h → Q (.exit p.1) σ d h) (pd : Option Code) (h : AH) (H : sE pd N Rt X h) : OT Q σ d pd h := by
 unfold sE at H
 split at H
 · exact hN _ H
 · exact hR _ H
 · rename_i id
   show Q (.exit id) σ d h
   induction X with
   | nil => exact H.elim
   | cons p X ih =>
    obtain ⟨j, A⟩ := p
    have H' : (bif Nat.beq id j then A else xl X id) h := H
    cases hj : Nat.beq id j with
    | true =>
     rw [hj] at H'
     have := Nat.eq_of_beq_eq_true hj
     subst this
     exact hX _ List.mem_cons_self _ H'
    | false =>
     rw [hj] at H'
     exact ih (fun p hp => hX p (List.mem_cons_of_mem _ hp)) H'
 · exact H.elim
def OU (Q : PQ) (σ : Sl) (d : DS) : List (Nat × W) → Prop
 | [] => True
 | (j, A) :: l => (∀ h, A h → Q (.exit j) σ d h) ∧ OU Q σ d l
theorem XK {Q : PQ} {σ : Sl} {d : DS} : ∀ {X : List (Nat × W)}, OU Q σ d X → ∀ p ∈ X, ∀ h, p.2 h → Q (.exit p.1) σ d h
 | [], _, p, hp => by cases hp
 | (j, A) :: l, ⟨h1, h2⟩, p, hp => by
  rcases List.mem_cons.1 hp with rfl | hp
  · exact h1
  · exact XK h2 p hp
theorem J5 (bE : P.follows .mixedOrders = true) {fn : FuncId} {nt : Nat} {f : ee} {ps : List Pos} {a b : dh} {σ : Sl} {rs : List Nat} {h : AH} {Q : PQ} {fv : Value} (B : LO → Nat → List Value → (Value → W) → W) (E : Nat → Value → W) (N Rt : Nat → W) (X : Nat → List (Nat × W))
 (hf : eV σ f = fv) (H : xw P w0 fv B E (fun r pd => sE pd (N r) (Rt r) (X r)) h) (hE : ∀ r v h, E r v h → Q (.aP v) σ (gK (r :: rs)) h)
 (hN : ∀ r h, N r h → Q .normal σ (gK (r :: rs)) h) (hR : ∀ r h, Rt r h → Q .ret σ (gK (r :: rs)) h) (hX : ∀ r, OU Q σ (gK (r :: rs)) (X r))
 (hB : ∀ (lo : LO) (_ : isL lo) (l : Nat) (vs : List Value) (R : Value → W) (h : AH), B lo l vs R h → (∃ st pd, h.ob.get l = some (lo st pd)) ∧ ps.length = vs.length ∧ ep P w0 a ⟨fn, nt, some l⟩ (Hi σ ps vs) ⟨[], .off⟩ h (OQ P w0 lo l b ⟨fn, nt, some l⟩ R)) :
 ep P w0 (.mV f ps a b) ⟨fn, nt, none⟩ σ (gK rs) h Q := by
 intro tm eg
 subst eg
 refine qm bE ?_
 show rq f tm (fun fv => sU fv (fun g first bR => lu h (.defs false) fun r h => AR (fE P w0) ⟨fn, nt, none⟩ ⟨tm, rs.map .oH, .off, _⟩ _ ps a b g first bR h r (.oH r :: rs.map .oH)) mu) = true
 rw [NO, Oi, hf]
 unfold xw at H
 split at H
 · rename_i g first bR
   rw [agV, BK]
   refine agX rfl rfl H (fun lo oW l vs R h hb => ?_) (fun v h hv => hE _ v h hv) (fun pd h hk => agY (hN _) (hR _) (XK (hX _)) pd h hk)
   obtain ⟨h1, h2, h3⟩ := hB lo ⟨_, _, _, _, _, _, _, oW⟩ l vs R h hb
   exact agW bE oW h1 h2 h3
 · exact H.elim
theorem J7 {lo : LO} {l : Nat} {K : W} {h : AH} (H : qN lo l K h) : (∃ st pd, h.ob.get l = some (lo st pd)) ∧ K h := H
theorem agZ {lo : LO} {l : Nat} {K K' : W} {h : AH} (H : mO lo l K h) (hk : ∀ h, K h → K' h) : mO lo l K' h := by
 obtain ⟨pd, h1, h2⟩ := H
 exact ⟨pd, h1, hk _ h2⟩
theorem J8 {lo : LO} {l : Nat} {K : W} {b : dh} {e : Env} {R : Value → W} {σ : Sl} {d : DS} {h : AH} (H : mO lo l K h) (hk : ∀ h, K h → ep P w0 b e σ d h (OP lo l R)) : OQ P w0 lo l b e R .normal σ d h := agZ H hk
theorem J6 {F : Value → Value → W} {vs : List Value} {h : AH} (H : zX F vs h) : ∃ a b, vs = [a, b] ∧ F a b h := by
 unfold zX at H; split at H
 · exact ⟨_, _, rfl, H⟩
 · exact H.elim
theorem OV {K : Option Value → AH → Prop} {m : Option Value} : ∀ {rs : List Nat} {h : AH}, jb rs (K m) h → WL P w0 (rs.map .oH) m h K
 | [], h, H => H
 | r :: rs, h, H => by
  obtain ⟨h1, h2⟩ : h.ob.get r = some (.defs false) ∧ jb rs (K m) (h.lW r (.defs true)) := H
  have ih := OV (rs := rs) h2
  refine MJ (rec := fE P w0) (BH P w0) ?_
  show yf h r (fun t => iff (!t) (gz h r (some (.defs true)) fun h => fE P w0 (.leave (rs.map .oH) m h _))) = true
  rw [agU h1]
  rw [Bool.not_false, fF, yG]
  exact Om (fun m h hm => decide_eq_true hm) ih
theorem xx {Q : PQ} {σ : Sl} {d : DS} {h : AH} (res : List lg) (R : CR → AH → Prop) (rs : List Nat) (hQ : Q .ret σ d h = BI P w0 res R .ret σ (gK rs) h) (H : jb rs (fun h => lV res σ h fun vs => R (.ret (vE vs)) h) h) : Q .ret σ d h := by
 rw [hQ]
 exact OV (m := none) (K := fun m h => match m with | none => lV res σ h fun vs => R (.ret (vE vs)) h | some v => R (.aP v) h) H
theorem oz {Q : PQ} {σ : Sl} {d : DS} {h : AH} {v : Value} (res : List lg) (R : CR → AH → Prop) (rs : List Nat) (hQ : Q (.aP v) σ d h = BI P w0 res R (.aP v) σ (gK rs) h) (H : jb rs (fun h => R (.aP v) h) h) : Q (.aP v) σ d h := by
 rw [hQ]
 exact OV (m := some v) (K := fun m h => match m with | none => res = [] ∧ R (.ret (.tuple ⟨[]⟩)) h | some v => R (.aP v) h) H
def cE (rs : List Nat) (E : Value → W) : Value → W := fun v => jb rs (E v)
section
variable {e : Env} {σ : Sl} {h : AH} {Q : PQ} {a b c : dh}
theorem qO {α : Type} (U : List (Pos × Value)) (M : α → List (Pos × Value)) (π : Sl → α) (J : α → List Nat → W) {rs : List Nat} (hM : ∀ σ, qn σ (M (π σ))) (hb : ∀ (x : α) (rs : List Nat) (σ : Sl) (h : AH), J x rs h → ep P w0 b e ((σ.rR U).rR (M x)) (gK rs) h Q)
 (ha : ep P w0 a e σ (gK rs) h (vC (fun σ d' h => ∃ rU, d' = gK rU ∧ qn σ U ∧ J (π σ) rU h) Q)) : ep P w0 (.seq a b) e σ (gK rs) h Q := by
 refine Ol a (fun x σ d' h hx => ?_) ha
 cases x with
 | normal =>
  obtain ⟨rU, rfl, h2, h3⟩ := hx
  have := hb (π σ) rU σ h h3
  rwa [vI h2, vI (hM σ)] at this
 | _ => exact hx
theorem Tr (bE : P.follows .mixedOrders = true) {α : Type} (U : List (Pos × Value)) (M : α → List (Pos × Value)) (π : Sl → α) (F : (α × List Nat → W) → α × List Nat → W) (hM : ∀ σ, qn σ (M (π σ)))
 (hF : ∀ (k : α × List Nat → W) (x : α) (rs : List Nat) (σ : Sl) (h : AH), F k (x, rs) h → ep P w0 c e ((σ.rR U).rR (M x)) (gK rs) h (vC (fun σ d' h => ∃ rU, d' = gK rU ∧ qn σ U ∧ k (π σ, rU) h) Q)) {x : α} {rs : List Nat} (hx : π σ = x) (hU : qn σ U) (H : LP F (x, rs) h) : ep P w0 (.loop c) e σ (gK rs) h Q := by
 subst hx
 obtain ⟨n, H⟩ := H
 have key : ∀ n rs σ h, qn σ U → gG F n (π σ, rs) h → WC P w0 (.loop c) e σ (gK rs) h Q := by
  intro n
  induction n with
  | zero => intro rs σ h _ H; exact H.elim
  | succ n ih =>
   intro rs σ h hU H
   refine XA bE ?_
   have h1 := hF (gG F n) (π σ) rs σ h H
   rw [vI hU, vI (hM σ)] at h1
   refine Ol c (fun x σ d' h hx => ?_) h1
   cases x with
   | normal =>
    obtain ⟨rU, rfl, h2, h3⟩ := hx
    exact ih rU σ h h2 h3
   | _ => exact hx
 exact key n rs σ h hU H
end
end
end
end Go.Ve
namespace Go.Ve
open Go.RowKit
noncomputable section
def AH.kill (h : AH) (b : Nat) : AH := ⟨h.nx, h.ob.set b none⟩
theorem AH.OW (h : AH) (b f : Nat) : (h.kill b).ob.get f = if f = b then none else h.ob.get f := by
 show (h.ob.set b none).get f = _
 rw [NT.dc]
theorem AH.XL {h : AH} (H : h.Ok) (b : Nat) : (h.kill b).Ok := fun f hf => by
 rw [AH.OW]; split
 · rfl
 · exact H f hf
theorem XM (h : AH) (b : Nat) (k : AH → Bool) : gz h b none k = k (h.kill b) := Ou h b none k
section
variable {h : AH} {R : Value → AH → Prop}
theorem ag0 {zero l : List Value} {ps : List (Nat × Nat)} {vs : List Value} (hf : ∀ k : List Value → Bool, jg zero ps vs k = k l) : WP (.build zero ps) vs h R ↔ R (.agg ⟨l⟩) h := dk fun k => hf _
theorem ag1 {ty : TypeId} {n : Nat} {cells l : List Value} {ps : List (Nat × Nat)} {vs : List Value} (hf : ∀ k : List Value → Bool, jg cells ps vs k = k l) (ha : di l = true) :
 WP (.buildSlice ty n cells ps) vs h R ↔ R (fG h.nx 0 n n) (h.new ty l) := dk fun k => by
 show jg cells ps vs (fun l => kj h ty l fun b h => k (.slice (some ⟨b, 0, none⟩) n n) h) = _
 rw [hf, vH h ty ha]
theorem ag2 (n : Nat) (zero : List Value) (k : List Value → Bool) : xL n zero k = k ((List.replicate n zero).flatten) := by
 induction n generalizing k with
 | zero => rfl
 | succ n ih =>
  show xL n zero (fun l => iv zero l k) = _
  rw [ih, tq]; rfl
theorem ag3 {ty : TypeId} {sz l c : Nat} {zero : List Value} {k1 k2 : IntKind} (Hk : l ≤ c) (hc : c ≤ 65536) (hz : zero.length = sz) (ha : di ((List.replicate c zero).flatten) = true) :
 WP (.mkSlice ty sz zero) [.int k1 (l : Int), .int k2 (c : Int)] h R ↔ R (fG h.nx 0 l c) (h.new ty (List.replicate c zero).flatten) := dk fun k => by
 show iff (Nat.ble l c && Nat.ble c 65536 && iJ zero sz) (xL c zero fun cs => kj h ty cs fun b h => k (.slice (some ⟨b, 0, none⟩) l c) h) = _
 have e : (Nat.ble l c && Nat.ble c 65536 && iJ zero sz) = true := by
  rw [tw]; simp only [Bool.and_eq_true, Nat.ble_eq, decide_eq_true_eq]; exact ⟨⟨Hk, hc⟩, hz⟩
 rw [e, fF, ag2, vH h ty ha]
theorem ag4 (sz : Nat) (k : Nat → List Value → Bool) {n c : Nat} : lx h sz (.slice none n c) k = k 0 [] := rfl
theorem ag5 {sz b o n c : Nat} {l : List Value} (hr : h.bU b o l) (hl : l.length = n * sz) (hn : 0 < n * sz) (k : Nat → List Value → Bool) : lx h sz (fG b o n c) k = k n l := by
 show (bif Nat.beq n 0 then k 0 [] else ln h b o (Nat.mul n sz) fun l => k n l) = _
 have h0 : n ≠ 0 := fun e => by rw [e] at hn; omega
 rw [fg h0]
 exact Ow hr hl hn _
theorem ag6 {sz b o c : Nat} (k : Nat → List Value → Bool) : lx h sz (fG b o 0 c) k = k 0 [] := rfl
section
variable {ty : TypeId} {sz n : Nat} {zero xs : List Value} {x : Value}
theorem vJ (hx : ∀ k : Nat → List Value → Bool, lx h sz x k = k n xs) (h1 : 1 ≤ sz) (hz : zero.length = sz) (s : Value) (k : KV) :
 (Prim.append ty sz zero).ev [s, x] h k = kq s (yj h ty sz n xs k) (yk h ty sz n xs k) := by
 show lx h sz x (fun n xs => iff (Nat.ble 1 sz && iJ zero sz) (kq s (yj h ty sz n xs k) (yk h ty sz n xs k))) = _
 rw [hx]
 have e : (Nat.ble 1 sz && iJ zero sz) = true := by rw [tw]; simp only [Bool.and_eq_true, Nat.ble_eq, decide_eq_true_eq]; exact ⟨h1, hz⟩
 rw [e, fF]
theorem XN (hx : ∀ k : Nat → List Value → Bool, lx h sz x k = k 0 xs) (h1 : 1 ≤ sz) (hz : zero.length = sz) {a : Addr} {len cap : Nat} :
 WP (.append ty sz zero) [.slice (some a) len cap, x] h R ↔ R (.slice (some ⟨a.block, a.off, none⟩) len cap) h := dk fun k => by
 rw [vJ hx h1 hz]; cases a; rfl
theorem ag7 (hx : ∀ k : Nat → List Value → Bool, lx h sz x k = k 0 xs) (h1 : 1 ≤ sz) (hz : zero.length = sz) {len cap : Nat} :
 WP (.append ty sz zero) [.slice none len cap, x] h R ↔ R cH h := dk fun k => by
 rw [vJ hx h1 hz]; rfl
theorem ag8 (hx : ∀ k : Nat → List Value → Bool, lx h sz x k = k n xs) (h1 : 1 ≤ sz) (hz : zero.length = sz) (hn : 0 < n) (hb : n ≤ 1048576) (ha : di xs = true) {len cap : Nat} :
 WP (.append ty sz zero) [.slice none len cap, x] h R ↔ R (fG h.nx 0 n (aY + sz)) (h.new ty xs) := dk fun k => by
 rw [vJ hx h1 hz]
 show (bif Nat.beq n 0 then k (.slice none 0 0) h else iff (Nat.ble n 1048576) (kj h ty xs fun b h => fN (Nat.add aY sz) fun cp => k (.slice (some ⟨b, 0, none⟩) n cp) h)) = _
 have e : Nat.ble n 1048576 = true := by rw [Nat.ble_eq]; exact hb
 rw [fg (show n ≠ 0 by omega), e]
 show kj h ty xs _ = _
 rw [vH h ty ha, ch]; rfl
def AH.grown (h : AH) (b o : Nat) (ty : TypeId) (c : NT Value) (at_ dS : Nat) (xs : List Value) : AH := (h.kill b).er (.cells o dS ty true (jo c at_ xs))
theorem ag9 (hx : ∀ k : Nat → List Value → Bool, lx h sz x k = k n xs) (h1 : 1 ≤ sz) (hz : zero.length = sz) (hn : 0 < n) {b o len lo hi : Nat} {c : NT Value} {s : Option Nat} (hb : len + n ≤ 1048576) (ha : di xs = true)
 (hg : h.ob.get b = some (.cells lo hi ty true c)) (oW : lo ≤ o) (OX : o + len * sz ≤ hi) :
 WP (.append ty sz zero) [.slice (some ⟨b, o, s⟩) len (aY + sz), x] h R ↔ R (fG h.nx o (len + n) (aY + sz)) (h.grown b o ty c (o + len * sz) (o + (len + n) * sz) xs) := dk fun k => by
 rw [vJ hx h1 hz]
 show (bif Nat.beq n 0 then k (.slice (some ⟨b, o, none⟩) len (aY + sz)) h else fN (Nat.add len n) fun iB => iff (Nat.ble iB 1048576) (bif Nat.ble aY (aY + sz) then Gl h ty sz xs b o len (aY + sz) iB k else _)) = _
 have e : Nat.ble (len + n) 1048576 = true := by rw [Nat.ble_eq]; exact hb
 have e2 : Nat.ble aY (aY + sz) = true := by rw [Nat.ble_eq]; omega
 rw [fg (show n ≠ 0 by omega)]
 simp only [cond_false]
 rw [ch, show Nat.add len n = len + n from rfl, e, fF, e2]
 simp only [cond_true]
 unfold Gl
 have e3 : Nat.beq (aY + sz) (Nat.add aY sz) = true := by rw [Nat.beq_eq]; rfl
 rw [e3, fF]
 unfold lv
 rw [tu hg]
 show iff (true && Nat.beq ty ty && Nat.ble lo o && Nat.ble (Nat.add o (Nat.mul len sz)) hi && di xs) _ = _
 have e4 : (true && Nat.beq ty ty && Nat.ble lo o && Nat.ble (Nat.add o (Nat.mul len sz)) hi && di xs) = true := by
  simp only [Bool.and_eq_true, Nat.ble_eq, Nat.beq_eq]; exact ⟨⟨⟨⟨trivial, trivial⟩, oW⟩, OX⟩, ha⟩
 rw [e4, fF, XM, ch, G4, ch, Ov]
 rfl
theorem aha (hx : ∀ k : Nat → List Value → Bool, lx h sz x k = k n xs) (h1 : 1 ≤ sz) (hz : zero.length = sz) (hn : 0 < n) {b o len cap : Nat} {s : Option Nat} {old : List Value} (hb : len + n ≤ 1048576) (hc : cap < len + n) (ha : di (old ++ xs) = true)
 (hl : 0 < len) (hr : h.bU b o old) (ho : old.length = len * sz) :
 WP (.append ty sz zero) [.slice (some ⟨b, o, s⟩) len cap, x] h R ↔ R (fG h.nx 0 (len + n) (aY + sz)) (h.new ty (old ++ xs)) := dk fun k => by
 rw [vJ hx h1 hz]
 show (bif Nat.beq n 0 then k (.slice (some ⟨b, o, none⟩) len cap) h else fN (Nat.add len n) fun iB => iff (Nat.ble iB 1048576) (bif Nat.ble aY cap then _ else bif Nat.ble iB cap then _ else bif Nat.beq len 0 then _ else ln h b o (Nat.mul len sz) fun old => iv old xs fun l => kj h ty l fun b' h => fN (Nat.add aY sz) fun cp => k (.slice (some ⟨b', 0, none⟩) iB cp) h)) = _
 have e : Nat.ble (len + n) 1048576 = true := by rw [Nat.ble_eq]; exact hb
 have e2 : Nat.ble aY cap = false := by
  have : ¬ aY ≤ cap := by unfold aY; omega
  cases hh : Nat.ble aY cap with
  | false => rfl
  | true => rw [Nat.ble_eq] at hh; exact absurd hh this
 have e3 : Nat.ble (len + n) cap = false := by
  cases hh : Nat.ble (len + n) cap with
  | false => rfl
  | true => rw [Nat.ble_eq] at hh; omega
 rw [fg (show n ≠ 0 by omega)]
 simp only [cond_false]
 rw [ch, show Nat.add len n = len + n from rfl, e, fF, e2, e3, fg (show len ≠ 0 by omega)]
 simp only [cond_false]
 have oc : 0 < len * sz := Nat.mul_pos hl h1
 rw [show Nat.mul len sz = len * sz from rfl, Ow hr ho oc, tq, vH h ty ha, ch]
 rfl
end
theorem ahb : WP .mkMap [] h R ↔ R (.map (some h.nx)) (h.er (.map [] 0)) := dk fun k => by
 show lu h (.map [] 0) (fun b h => k (.map (some b)) h) = _
 rw [BK]
end
end
end Go.Ve
namespace Go.Ve
open Go.RowKit
open Classical
noncomputable section
def AH.oX (h : AH) (b : Nat) : Nat → Nat → Option (List Value)
 | _, 0 => some []
 | o, n + 1 => match h.rd b o with
  | none => none
  | some v => match h.oX b (o + 1) n with
   | none => none
   | some l => some (v :: l)
theorem AH.XO {h : AH} {b : Nat} : ∀ {n o : Nat} {l : List Value}, h.oX b o n = some l → l.length = n ∧ h.bU b o l
 | 0, o, l, e => by cases e; exact ⟨rfl, AH.Oo h b o⟩
 | n + 1, o, l, e => by
  unfold AH.oX at e
  split at e
  · cases e
  · rename_i v hv
    split at e
    · cases e
    · rename_i m hm
      cases e
      obtain ⟨h1, h2⟩ := AH.XO hm
      exact ⟨by simp [h1], AH.XF.2 ⟨hv, h2⟩⟩
theorem AH.XP {h : AH} {b : Nat} : ∀ {l : List Value} {n o : Nat}, l.length = n → h.bU b o l → h.oX b o n = some l
 | [], n, o, hn, _ => by subst hn; rfl
 | v :: l, n, o, hn, hr => by
  subst hn
  obtain ⟨h1, h2⟩ := AH.XF.1 hr
  show (match h.rd b o with | none => none | some v => match h.oX b (o + 1) l.length with | none => none | some l => some (v :: l)) = _
  rw [h1, AH.XP rfl h2]
theorem AH.OY (h : AH) (b o : Nat) : h.oX b o 0 = some [] := rfl
theorem AH.OZ (h : AH) (b o n : Nat) : h.oX b o (n + 1) = (h.rd b o).bind fun v => (h.oX b (o + 1) n).map (v :: ·) := by
 show (match h.rd b o with | none => none | some v => match h.oX b (o + 1) n with | none => none | some l => some (v :: l)) = _
 cases h.rd b o with
 | none => rfl
 | some v => cases h.oX b (o + 1) n <;> rfl
theorem AH.Hl (h : AH) (ty : TypeId) (l : List Value) (b o n : Nat) : (h.new ty l).can b o n ↔ (if b = h.nx then o + n ≤ l.length else h.can b o n) := by
 by_cases e : b = h.nx
 · subst e
   rw [if_pos rfl]
   constructor
   · rintro ⟨lo, hi, cz, c, h1, h2, h3⟩
     have hZ : (h.ob.set h.nx (some (.cells 0 l.length ty true (jo .e 0 l)))).get h.nx = some (.cells lo hi cz true c) := h1
     rw [NT.dc, if_pos rfl] at hZ
     cases hZ; exact h3
   · exact fun hn => AH.XD h ty l hn
 · rw [if_neg e]
   constructor
   · rintro ⟨lo, hi, cz, c, h1, h2, h3⟩
     have hZ : (h.ob.set h.nx (some (.cells 0 l.length ty true (jo .e 0 l)))).get b = some (.cells lo hi cz true c) := h1
     rw [NT.dc, if_neg e] at hZ
     exact ⟨lo, hi, cz, c, hZ, h2, h3⟩
   · exact fun H => AH.agF ty l H e
theorem AH.O0 (h : AH) (b o : Nat) (l : List Value) (b' o' n' : Nat) : (h.wr b o l).can b' o' n' ↔ h.can b' o' n' := by
 refine ⟨fun H => ?_, AH.XE⟩
 by_cases e : b' = b
 · subst e
   obtain ⟨lo, hi, ty, c, h1, h2, h3⟩ := H
   unfold AH.wr at h1
   split at h1
   · rename_i tv dS cz ml c' heq
     have hZ : (h.ob.set b' (some (.cells tv dS cz ml (jo c' o l)))).get b' = some (.cells lo hi ty true c) := h1
     rw [NT.dc, if_pos rfl] at hZ
     cases hZ
     exact ⟨lo, hi, ty, c', heq, h2, h3⟩
   · exact ⟨lo, hi, ty, c, h1, h2, h3⟩
 · obtain ⟨lo, hi, ty, c, h1, h2, h3⟩ := H
   rw [AH.tt h e] at h1
   exact ⟨lo, hi, ty, c, h1, h2, h3⟩
theorem AH.O1 {h : AH} {b o : Nat} {l : List Value} (H : h.can b o l.length) (b' o' : Nat) : (h.wr b o l).rd b' o' = if b' = b ∧ o ≤ o' ∧ o' < o + l.length then l[o' - o]? else h.rd b' o' := AH.yD H (Nat.le_refl _) b' o'
section
variable {h : AH} {R : Value → AH → Prop}
theorem O2 {b o : Nat} {s : Option Nat} : WP .aL [.pointer (some ⟨b, o, s⟩)] h R ↔ ∃ v, h.rd b o = some v ∧ R v h := by
 constructor
 · intro H
   have e : pX h b o (fun v => decide (R v h)) = true := H (fun v h => decide (R v h)) fun _ _ hr => decide_eq_true hr
   obtain ⟨lo, hi, ty, rw, c, v, h1, h2, h3, h4, h5⟩ := Gc e
   refine ⟨v, ?_, of_decide_eq_true h5⟩
   unfold AH.rd
   rw [h1]
   show (if lo ≤ o ∧ o + 1 ≤ hi then c.get o else none) = some v
   rw [if_pos ⟨h2, h3⟩, h4]
 · rintro ⟨v, h1, h2⟩; exact (G9 h1).2 h2
theorem lX {b o n : Nat} {s : Option Nat} (h0 : 0 < n) : WP (.bo n) [.pointer (some ⟨b, o, s⟩)] h R ↔ ∃ l, h.oX b o n = some l ∧ R (.agg ⟨l⟩) h := by
 constructor
 · intro H
   have e : ln h b o n (fun l => decide (R (.agg ⟨l⟩) h)) = true := H (fun v h => decide (R v h)) fun _ _ hr => decide_eq_true hr
   obtain ⟨lo, hi, ty, rw, c, l, h1, h2, h3, h4, h5, h6⟩ := sM e
   refine ⟨l, AH.XP h4 fun i v hv => ?_, of_decide_eq_true h6⟩
   have dS : i < n := by have := (List.getElem?_eq_some_iff.1 hv).1; omega
   unfold AH.rd
   rw [h1]
   show (if lo ≤ o + i ∧ o + i + 1 ≤ hi then c.get (o + i) else none) = some v
   rw [if_pos ⟨by omega, by omega⟩, h5 i v hv]
 · rintro ⟨l, h1, h2⟩
   obtain ⟨h3, h4⟩ := AH.XO h1
   exact (Ha h4 h3 h0).2 h2
theorem O3 {b o n : Nat} {s : Option Nat} {v : Value} : WP (.store n) [.pointer (some ⟨b, o, s⟩), v] h R ↔ (cellsOf v).length = n ∧ di (cellsOf v) = true ∧ h.can b o n ∧ R undef (h.wr b o (cellsOf v)) := by
 constructor
 · intro H
   have e : iff (iJ (cellsOf v) n) (qd h b o (cellsOf v) fun h => decide (R undef h)) = true := H (fun v h => decide (R v h)) fun _ _ hr => decide_eq_true hr
   obtain ⟨h1, h2⟩ := cj e
   rw [tw, decide_eq_true_eq] at h1
   have hc : h.can b o (cellsOf v).length ∧ di (cellsOf v) = true := by
    obtain ⟨lo, hi, ty, rw, c, g1, g2⟩ := rN (show lv h b _ = true from h2)
    obtain ⟨g3, g4⟩ := cj g2
    simp only [Bool.and_eq_true] at g3
    obtain ⟨⟨⟨r1, r2⟩, r3⟩, r4⟩ := g3
    subst r1
    exact ⟨⟨lo, hi, ty, c, g1, Nat.le_of_ble_eq_true r2, Nat.le_of_ble_eq_true r3⟩, r4⟩
   rw [Ox hc.1 hc.2] at h2
   exact ⟨h1, hc.2, h1 ▸ hc.1, of_decide_eq_true h2⟩
 · rintro ⟨h1, h2, h3, h4⟩
   exact (Hb h3 h1 h2).2 h4
theorem Hm {l : List Value} {i : Nat} : WP (.extract i) [.tuple ⟨l⟩] h R ↔ ∃ v, l[i]? = some v ∧ R v h := by
 constructor
 · intro H
   have e : n4 l i (fun v => decide (R v h)) = true := H (fun v h => decide (R v h)) fun _ _ hr => decide_eq_true hr
   cases hv : l[i]? with
   | some v => rw [Hc hv] at e; exact ⟨v, rfl, of_decide_eq_true e⟩
   | none =>
    exfalso
    clear H
    induction l generalizing i with
    | nil => cases e
    | cons x l ih => cases i with
     | zero => simp at hv
     | succ i => exact ih (show n4 l i _ = true from e) (by simpa using hv)
 · rintro ⟨v, h1, h2⟩; exact (fH h1).2 h2
theorem O4 {l : List Value} {i : Nat} : WP (.LX i) [.agg ⟨l⟩] h R ↔ ∃ v, l[i]? = some v ∧ R v h :=
 (show WP (.LX i) [.agg ⟨l⟩] h R ↔ WP (.extract i) [.tuple ⟨l⟩] h R from Iff.rfl).trans Hm
end
theorem O5 (k : IntKind) (n : Int) : fb (.int k n) = true := rfl
theorem O6 (b : Bool) : fb (.bool b) = true := rfl
theorem O7 (s : ByteArray) : fb (.string s) = true := rfl
theorem O8 (a : Option Addr) : fb (.pointer a) = true := rfl
theorem O9 (a : Option Addr) (n c : Nat) : fb (.slice a n c) = true := rfl
theorem Pa (a : Option Nat) : fb (.map a) = true := rfl
theorem Pb (f : Fn) (a b : Array Value) : fb (.func f a b) = true := rfl
theorem bH (l : List Value) : cellsOf (.agg ⟨l⟩) = l := rfl
theorem bI (k : IntKind) (n : Int) : cellsOf (.int k n) = [.int k n] := rfl
theorem bJ (b : Bool) : cellsOf (.bool b) = [.bool b] := rfl
theorem bK (s : ByteArray) : cellsOf (.string s) = [.string s] := rfl
theorem Pc (a : Option Addr) : cellsOf (.pointer a) = [.pointer a] := rfl
theorem Pd (a : Option Addr) (n c : Nat) : cellsOf (.slice a n c) = [.slice a n c] := rfl
theorem Pe (a : Option Nat) : cellsOf (.map a) = [.map a] := rfl
theorem Pf (f : Fn) (a b : Array Value) : cellsOf (.func f a b) = [.func f a b] := rfl
theorem tA {v : Value} (h : fb v = true) : cellsOf v = [v] := by
 cases v <;> first | rfl | cases h
theorem Pg : di [] = true := rfl
theorem tB (v : Value) (l : List Value) : di (v :: l) = (fb v && di l) := by
 show (bif fb v then di l else false) = _
 cases fb v <;> rfl
def kP (l : List Value) (o : Nat) (m : List Value) : List Value := l.take o ++ m ++ l.drop (o + m.length)
def kQ : List Value → List (Nat × Nat) → List Value → Option (List Value)
 | l, [], [] => some l
 | l, (o, n) :: ps, v :: vs => if (cellsOf v).length = n ∧ o + n ≤ l.length then kQ (kP l o (cellsOf v)) ps vs else none
 | _, _, _ => none
theorem XQ : ∀ {l m : List Value} (_ : m.length ≤ l.length) (k : List Value → Bool), lr l m k = k (m ++ l.drop m.length)
 | [], [], _, k => rfl
 | [], v :: m, h, k => by simp at h
 | x :: l, [], h, k => rfl
 | x :: l, v :: m, h, k => by
  show lr l m (fun l' => k (v :: l')) = _
  rw [XQ (by simpa using h)]; simp
theorem Ph : ∀ {l : List Value} {o : Nat} {m : List Value} (_ : o + m.length ≤ l.length) (k : List Value → Bool), nO l o m k = k (kP l o m)
 | [], 0, [], h, k => rfl
 | [], 0, v :: m, h, k => by simp at h
 | [], o + 1, m, h, k => by simp at h
 | x :: l, 0, m, h, k => by
  show lr (x :: l) m k = _
  rw [XQ (by omega)]; unfold kP; rw [List.take_zero, List.nil_append, Nat.zero_add]
 | x :: l, o + 1, m, h, k => by
  show nO l o m (fun l' => k (x :: l')) = _
  rw [Ph (by simp at h; omega)]
  unfold kP
  rw [show o + 1 + m.length = (o + m.length) + 1 by omega]
  rfl
theorem Pj : ∀ {ps : List (Nat × Nat)} {l vs m : List Value} (_ : kQ l ps vs = some m) (k : List Value → Bool), jg l ps vs k = k m
 | [], l, [], m, e, k => by cases e; rfl
 | [], l, v :: vs, m, e, k => by cases e
 | (o, n) :: ps, l, [], m, e, k => by cases e
 | (o, n) :: ps, l, v :: vs, m, e, k => by
  unfold kQ at e
  split at e
  · rename_i hc
    show (bif iJ (cellsOf v) n then nO l o (cellsOf v) fun l' => jg l' ps vs k else false) = _
    rw [tw, decide_eq_true hc.1]
    simp only [cond_true]
    rw [Ph (by rw [hc.1]; exact hc.2), Pj e]
  · cases e
def da : List Nat → List Value → Bool
 | [], [] => true
 | n :: ns, v :: vs => decide ((cellsOf v).length = n) && da ns vs
 | _, _ => false
theorem XR : ∀ {ss : List Nat} {vs : List Value}, da ss vs = true → ss = vs.map fun v => (cellsOf v).length
 | [], [], _ => rfl
 | n :: ns, v :: vs, e => by
  unfold da at e
  rw [Bool.and_eq_true, decide_eq_true_eq] at e
  rw [List.map_cons, XR e.2, e.1]
 | [], _ :: _, e => by cases e
 | _ :: _, [], e => by cases e
section
variable {h : AH} {R : Value → AH → Prop}
theorem Hn {ss : List Nat} {vs : List Value} (hs : da ss vs = true) : WP (.de ss) vs h R ↔ R (.agg ⟨vs.flatMap cellsOf⟩) h := agQ (XR hs)
theorem ic {zero l : List Value} {ps : List (Nat × Nat)} {vs : List Value} (hf : kQ zero ps vs = some l) : WP (.build zero ps) vs h R ↔ R (.agg ⟨l⟩) h := ag0 (Pj hf)
theorem ahc {ty : TypeId} {n : Nat} {cells l : List Value} {ps : List (Nat × Nat)} {vs : List Value} (hf : kQ cells ps vs = some l) (ha : di l = true) : WP (.buildSlice ty n cells ps) vs h R ↔ R (fG h.nx 0 n n) (h.new ty l) := ag1 (Pj hf) ha
end
theorem Pk : ∀ {l m : List Value} {k : List Value → Bool}, lr l m k = true → m.length ≤ l.length
 | [], [], k, _ => Nat.le_refl _
 | [], v :: m, k, h => by cases h
 | x :: l, [], k, _ => Nat.zero_le _
 | x :: l, v :: m, k, h => by
  have := Pk (show lr l m (fun l' => k (v :: l')) = true from h)
  simpa using this
theorem XS : ∀ {l : List Value} {o : Nat} {m : List Value} {k : List Value → Bool}, nO l o m k = true → o + m.length ≤ l.length
 | [], 0, m, k, h => by have := Pk (show lr [] m k = true from h); simpa using this
 | [], o + 1, m, k, h => by cases h
 | x :: l, 0, m, k, h => by have := Pk (show lr (x :: l) m k = true from h); omega
 | x :: l, o + 1, m, k, h => by
  have := XS (show nO l o m (fun l' => k (x :: l')) = true from h)
  simp only [List.length_cons]; omega
theorem XT : ∀ {ps : List (Nat × Nat)} {l vs : List Value} {k : List Value → Bool}, jg l ps vs k = true → ∃ m, kQ l ps vs = some m ∧ k m = true
 | [], l, [], k, h => ⟨l, rfl, h⟩
 | [], l, v :: vs, k, h => by cases h
 | (o, n) :: ps, l, [], k, h => by cases h
 | (o, n) :: ps, l, v :: vs, k, h => by
  have h' : (bif iJ (cellsOf v) n then nO l o (cellsOf v) fun l' => jg l' ps vs k else false) = true := h
  cases hl : iJ (cellsOf v) n with
  | false => rw [hl] at h'; cases h'
  | true =>
   rw [hl] at h'
   have h2 : nO l o (cellsOf v) (fun l' => jg l' ps vs k) = true := h'
   rw [tw, decide_eq_true_eq] at hl
   have h3 := XS h2
   rw [Ph h3] at h2
   obtain ⟨m, h4, h5⟩ := XT h2
   refine ⟨m, ?_, h5⟩
   unfold kQ
   rw [if_pos ⟨hl, by rw [← hl]; exact h3⟩]; exact h4
section
variable {h : AH} {R : Value → AH → Prop}
theorem Pl {zero : List Value} {ps : List (Nat × Nat)} {vs : List Value} : WP (.build zero ps) vs h R ↔ ∃ l, kQ zero ps vs = some l ∧ R (.agg ⟨l⟩) h := by
 constructor
 · intro H
   obtain ⟨m, h1, h2⟩ := XT (show jg zero ps vs (fun l => decide (R (.agg ⟨l⟩) h)) = true from H (fun v h => decide (R v h)) fun _ _ hr => decide_eq_true hr)
   exact ⟨m, h1, of_decide_eq_true h2⟩
 · rintro ⟨l, h1, h2⟩; exact (ic h1).2 h2
end
theorem Pm {sz : Nat} : ∀ {l : List (List Value)} {i : Nat} {x : List Value}, (∀ x ∈ l, x.length = sz) → l[i]? = some x → ∀ j v, x[j]? = some v → l.flatten[i * sz + j]? = some v
 | [], i, x, _, e, j, v, hv => by simp at e
 | y :: l, 0, x, hs, e, j, v, hv => by
  simp at e; subst e
  have : j < y.length := (List.getElem?_eq_some_iff.1 hv).1
  simp [List.getElem?_append_left this, hv]
 | y :: l, i + 1, x, hs, e, j, v, hv => by
  have h1 := hs y List.mem_cons_self
  have := Pm (fun x hx => hs x (List.mem_cons_of_mem _ hx)) (show l[i]? = some x by simpa using e) j v hv
  rw [List.flatten_cons, List.getElem?_append_right (by rw [h1, Nat.add_mul]; omega), h1]
  rw [show (i + 1) * sz + j - sz = i * sz + j by rw [Nat.add_mul]; omega]
  exact this
end
end Go.Ve
