/- Part 7: VEval, part 9: append, copy, make, maps, strings, composite values. No condition. And what follows it. -/
import Derived.Test.YteeibihhdldjfaaGreatDoorVeF
import Derived.MapKept
set_option linter.unusedVariables false
set_option linter.unusedSimpArgs false
namespace Go.Ve
open Go.RowKit
section
variable {P : Program} {w0 w : World} {φ : aE} {h : AH} {ρ : Operand → Value} {o : Oper} {vs : List Value} {k : KV}
theorem agO {x : Value} {x' : Value} {sz : Nat} {kk : Nat → List Value → Bool} (H : HR P w0 φ h w) (hr : VR φ x x') (e : kN h sz x kk = true) :
 ∃ n xs l7, kk n xs = true ∧ xs.length = n * sz ∧ LR φ xs l7 ∧ (Builtin.lenOf x').run P w = .ok n w ∧ ∀ w', w'.heap = w.heap → (Builtin.firstCells sz n x').run P w' = .ok l7.toArray w' := by
 unfold kN at e
 rcases oe e with ⟨l0, c0, al, e1⟩ | ⟨a, len, cap, al, e1⟩ <;> clear e <;> subst al
 · obtain ⟨rfl, rfl, hx⟩ := hr.pD
   subst hx
   exact ⟨0, [], [], e1, by simp, .nil, by simp [Builtin.lenOf], fun w' _ => by simp [Builtin.firstCells]⟩
 · obtain ⟨a', cH, hx, hs, hc⟩ := hr.ni
   subst hx
   by_cases hn : len = 0
   · subst hn
     rw [j7 rfl, cond_true] at e1
     exact ⟨0, [], [], e1, by simp, .nil, by simp [Builtin.lenOf], fun w' _ => by simp [Builtin.firstCells, loadCells, loadCellsFrom]⟩
   · rw [eO hn, cond_false] at e1
     have cw : AtR φ a a' := by
      rcases hc with ⟨h1, h2, qQ, h3⟩ | ⟨sz, h1, h2, h3, h4⟩
      · exact h3 (by omega)
      · exact (h4 (by omega)).1
     obtain ⟨lo, hi, ty, lQ, c, l, g1, g2, g3, g4, g5, g6⟩ := sD e1
     have BF : a.off + l.length ≤ hi := by rw [g4]; exact g3
     obtain ⟨l', q1, q2⟩ := H.cells (P := P) hs cw g1 g2 BF g5
     refine ⟨len, l, l', g6, g4, q1, by simp [Builtin.lenOf], fun w' hw => ?_⟩
     have := q2 w' hw
     rw [g4] at this
     exact this
theorem G4 {l3 : Array TypeId} {t u e eu ty : TypeId} {i : TypeInfo} (ht : P.underlying t = some (.slice e)) (hu : P.underlying u = some (.slice eu) ∨ P.underlying u = some .string) (hi : P.info? e = some i) (h0 : l3[0]? = some t) (h1 : l3[1]? = some u)
 {a : Option Addr} {sLen sCap n : Nat} {x : Value} {news : List Value} {w2 : World} (hlen : (Builtin.lenOf x).run P w = .ok n w) (hf : (Builtin.firstCells i.size n x).run P w = .ok news.toArray w)
 (iz : (match a with | some b => (storeCells (b.add (sLen * i.size)) news).run P w | none => .ok () w) = .ok () w2) (mR : sLen + n ≤ sCap) :
 (Builtin.append_ l3 ty #[.slice a sLen sCap, x]).run P w = .ok (.slice a (sLen + n) sCap) w2 := by
 have h0' : l3[0]? = some t := h0
 cases a with
 | none =>
  simp only [Result.ok.injEq] at iz
  obtain ⟨_, rfl⟩ := iz
  rcases hu with hu | hu <;> simp [Builtin.append_, h0, h1, run_underlying ht, run_underlying hu, sizeOf, typeInfo, hi, hlen, mR, hf]
 | some b =>
  rcases hu with hu | hu <;> simp [Builtin.append_, h0, h1, run_underlying ht, run_underlying hu, sizeOf, typeInfo, hi, hlen, mR, hf, iz]
theorem G5 {l3 : Array TypeId} {t u e eu ty : TypeId} {i : TypeInfo} {z : Value} (ht : P.underlying t = some (.slice e)) (hu : P.underlying u = some (.slice eu) ∨ P.underlying u = some .string) (hi : P.info? e = some i) (hz : i.zero = some z) (h0 : l3[0]? = some t) (h1 : l3[1]? = some u)
 {a : Option Addr} {sLen sCap n : Nat} {x : Value} {olds news : List Value} (hlen : (Builtin.lenOf x).run P w = .ok n w) (hf : ∀ w', w'.heap = w.heap → (Builtin.firstCells i.size n x).run P w' = .ok news.toArray w')
 (G3 : ∀ w', w'.heap = w.heap → (Builtin.firstCells i.size sLen (.slice a sLen sCap)).run P w' = .ok olds.toArray w') (hg : sCap < sLen + n) (hb : (sLen + n) * i.bytes ≤ 140737488355328) (anw : sLen + n ≤ 1048576) :
 ∃ nc, sLen + n ≤ nc ∧ (Builtin.append_ l3 ty #[.slice a sLen sCap, x]).run P w = .ok (.slice (some ⟨w.heap.size, 0, none⟩) (sLen + n) nc) (w.drew.alloc (.cells ((olds ++ news).toArray ++ Builtin.zeroCells z.cells (nc - (sLen + n))) e)) := by
 refine ⟨grownCap w (sLen + n) sCap e, grownCap_ge w _ _ _, ?_⟩
 have hn : ¬ (sLen + n ≤ sCap) := by omega
 have Gb : ¬ (9223372036854775807 < ((sLen : Int) + (n : Int))) := by omega
 have yp := growslice_fits (bytes := i.bytes) hg hb
 have Ye : ¬ (281474976710656 < Builtin.nextslicecap (sLen + n) sCap * i.bytes) := by omega
 have vk := hf w.drew rfl
 have vl := G3 w.drew rfl
 rcases hu with hu | hu
 · simp [Builtin.append_, h0, h1, run_underlying ht, run_underlying hu, sizeOf, typeInfo, zeroValue, hi, hz, hlen, hn, Gb, Ye, Question.forced, vk, vl, newRow, grownCap]
   rw [← Array.append_assoc]
   simp
 · simp [Builtin.append_, h0, h1, run_underlying ht, run_underlying hu, sizeOf, typeInfo, zeroValue, hi, hz, hlen, hn, Gb, Ye, Question.forced, vk, vl, newRow, grownCap]
   rw [← Array.append_assoc]
   simp
theorem AtR.add {a a' : Addr} (h : AtR φ a a') (n : Nat) : AtR φ ⟨a.block, a.off + n, none⟩ (a'.add n) := by
 intro b d m hl
 obtain ⟨e1, e2, e3⟩ := h b d m hl
 rw [lv a' e3]
 exact ⟨e1, by show a'.off + n + d = a.off + n; omega, rfl⟩
theorem PR.agP (H : HR P w0 φ h w) {ty : TypeId} {l l' : List Value} (hl : LR φ l l') {arr : Array Value} (agQ : ∀ (j : Nat) (v : Value), l'[j]? = some v → arr[j]? = some v) {c : NT Value} {o : Nat} {aS : NT AO} (hc : ∀ (j : Nat) (v : Value), l[j]? = some v → c.get (o + j) = some v)
 (bY : h.ob.iy h.nx (some (.cells o (o + l.length) ty true c)) aS) :
 HR P w0 (φ.put h.nx (.live w.heap.size o arr.size)) ⟨h.nx + 1, aS⟩ (w.alloc (.cells arr ty)) ∧ Ext h.nx φ (φ.put h.nx (.live w.heap.size o arr.size)) := by
 refine H.newAt (H.fresh _ (Nat.le_refl _)) bY.1 (fun g hg _ => bY.2 g hg) (fun g hg => H.fresh g (by simp only at hg; omega)) (fun g hg => by rw [bY.2 g (by simp only at hg; omega)]; exact H.top g (by simp only at hg; omega)) (by simp) _ (Nat.le_refl _) ?_
 refine .cells _ _ _ _ _ _ _ _ _ (fun _ => rfl) (Nat.le_refl _) rfl fun p LN LQ => ?_
 obtain ⟨j, rfl⟩ : ∃ j, p = o + j := ⟨p - o, by omega⟩
 have hj : j < l.length := by omega
 obtain ⟨u, hu, hr⟩ := LR.get hl j _ (List.getElem?_eq_getElem hj)
 exact ⟨l[j], u, hc j _ (List.getElem?_eq_getElem hj), by rw [show o + j - o = j by omega]; exact agQ j u hu, hr⟩
theorem HR.drew (H : HR P w0 φ h w) : HR P w0 φ h w.drew := H.world rfl rfl rfl rfl
theorem PR.G6 {r : Result Next} (H : HR P w0 φ h w) {ty : TypeId} {l l' : List Value} {z : Value} {sz n nc o : Nat} (ef : 0 < sz) (hz : z.cells.size = sz) (hl : LR φ l l') (hlen : l.length = n * sz) (Md : n ≤ nc) {c : NT Value} {aS : NT AO}
 (hc : ∀ (j : Nat) (v : Value), l[j]? = some v → c.get (o + j) = some v) (bY : h.ob.iy h.nx (some (.cells o (o + l.length) ty true c)) aS) {k : KV} (e : k (.slice (some ⟨h.nx, o, none⟩) n (aU + sz)) ⟨h.nx + 1, aS⟩ = true)
 (hr : r = .ok (.value (.slice (some ⟨w.heap.size, 0, none⟩) n nc)) (w.drew.alloc (.cells (l'.toArray ++ Builtin.zeroCells z.cells (nc - n)) ty))) : PR P w0 φ h r fun v h' => k v h' = true := by
 obtain ⟨g1, g2⟩ := PR.agP (P := P) H.drew (arr := l'.toArray ++ Builtin.zeroCells z.cells (nc - n)) hl (fun j v hj => by
  have : j < l'.length := (List.getElem?_eq_some_iff.1 hj).1
  rw [Array.getElem?_append]
  simp [this]
  simpa using (List.getElem?_eq_some_iff.1 hj).2) hc bY
 refine ⟨_, _, _, _, _, .inl hr, e, g2, by simp, .sl _ _ _ _ _ (by simp [aE.put]) (.inr ⟨sz, rfl, ef, Md, fun _ => ⟨fun b d m hl => ?_, fun b d m hl => ?_⟩⟩), g1⟩
 · simp only [aE.gP] at hl
   cases hl
   exact ⟨rfl, by show 0 + o = o; omega, rfl⟩
 · simp only [aE.gP] at hl
   cases hl
   have h2 := hl.length
   simp only [Array.size_append, List.size_toArray, size_zeroCells, hz]
   rw [← h2, hlen, ← Nat.add_mul]
   show 0 + nc * sz ≤ _
   have : n + (nc - n) = nc := by omega
   rw [this]; omega
theorem HR.agR (H : HR P w0 φ h w) {a a' : Addr} {lo hi : Nat} {ty : TypeId} {rw : Bool} {c : NT Value} (hs : φ a.block ≠ none) (ha : AtR φ a a') (ho : h.ob.get a.block = some (.cells lo hi ty rw c)) (m : Nat) (h1 : lo ≤ a.off) (h2 : a.off + m ≤ hi) :
 ∃ l l', l.length = m ∧ (∀ j v, l[j]? = some v → c.get (a.off + j) = some v) ∧ LR φ l l' ∧ ∀ w', w'.heap = w.heap → (loadCells a' m).run P w' = .ok l'.toArray w' := by
 obtain ⟨b, d, arr, _, _, _, _, _, _, _, hc, _⟩ := H.at hs ha ho
 let l := (List.range m).map fun j => (c.get (a.off + j)).getD undef
 have ke : l.length = m := by simp [l]
 have nN : ∀ j v, l[j]? = some v → c.get (a.off + j) = some v := by
  intro j v hj
  have hjm : j < m := by have := (List.getElem?_eq_some_iff.1 hj).1; omega
  obtain ⟨u, u', q1, _, _⟩ := hc (a.off + j) (by omega) (by omega)
  simp [l, hjm, q1] at hj
  rw [q1, hj]
 obtain ⟨l', q1, q2⟩ := H.cells (P := P) hs ha ho h1 (by omega) nN
 exact ⟨l, l', ke, nN, q1, fun w' hw => by have := q2 w' hw; rwa [ke] at this⟩
theorem HR.agS (H : HR P w0 φ h w) {f B d n : Nat} {o : AO} {o' : Obj} {h' : AH} {w' : World} (hf : φ f = none) (hB : ∀ g b d n, φ g = some (.live b d n) → b ≠ B) (bY : h.ob.iy f (some o) h'.ob) (iM : h.nx ≤ h'.nx) (hnf : f < h'.nx) (N : Nat) (hN : N ≤ f)
 (ho : OR P φ d n o o') (hb : w0.heap.size ≤ B) (h1 : w'.heap[B]? = some o') (h2 : ∀ k, k ≠ B → w'.heap[k]? = w.heap[k]?) (h3 : w'.heap.size = w.heap.size) (h4 : w'.os = w.os) (h5 : w'.tape = w.tape) (h6 : w'.output = w.output) :
 HR P w0 (φ.put f (.live B d n)) h' w' ∧ Ext N φ (φ.put f (.live B d n)) := by
 have hE : Ext N φ (φ.put f (.live B d n)) := aE.Gf φ _ hf hN
 have key : ∀ g b e m, (φ.put f (.live B d n)) g = some (.live b e m) → (g = f ∧ b = B ∧ e = d ∧ m = n) ∨ (g ≠ f ∧ φ g = some (.live b e m) ∧ b ≠ B) := by
  intro g b e m hg
  by_cases c9 : g = f
  · subst c9; rw [aE.gP] at hg; cases hg; exact .inl ⟨rfl, rfl, rfl, rfl⟩
  · rw [aE.gT _ _ c9] at hg
    exact .inr ⟨c9, hg, hB g b e m hg⟩
 refine ⟨⟨?_, ?_, fun g hg => by rw [bY.2 g (by omega)]; exact H.top g (by omega), ?_, ?_, ?_⟩, hE⟩
 · intro g g' b e e' m m' nL hg ou
   rcases key g b e m hg with ⟨a1, a2, _⟩ | ⟨a1, a2, a3⟩ <;> rcases key g' b e' m' ou with ⟨b1, b2, _⟩ | ⟨b1, b2, b3⟩
   · rw [a1, b1]
   · exact absurd a2 b3
   · exact absurd b2 a3
   · exact H.inj g g' b e e' m m' nL a2 b2
 · intro g hg
   rw [aE.gT _ _ (by omega)]
   exact H.fresh g (by omega)
 · intro g hg
   by_cases c9 : g = f
   · subst c9; rw [aE.gP] at hg; cases hg
   · rw [aE.gT _ _ c9] at hg
     rw [bY.2 g c9]
     exact H.dead g hg
 · intro g b e m hg
   rcases key g b e m hg with ⟨rfl, rfl, rfl, rfl⟩ | ⟨a1, a2, a3⟩
   · exact ⟨o, o', bY.1, h1, ho.ext hE, fun _ => hb⟩
   · obtain ⟨o1, o2, q1, q2, q3, q4⟩ := H.obj g b e m a2
     exact ⟨o1, o2, by rw [bY.2 g a1]; exact q1, by rw [h2 b a3]; exact q2, q3.ext hE, q4⟩
 · exact ⟨h4.trans H.below.os, h5.trans H.below.tape, h6.trans H.below.output, by rw [h3]; exact H.below.size, fun k hk => by rw [h2 k (by omega)]; exact H.below.block k hk⟩
theorem agT (arr : Array Value) (l' : List Value) (off : Nat) (yp : off + l'.length ≤ arr.size) :
 (List.take off arr.toList ++ l' ++ List.drop (off + l'.length) arr.toList).toArray.size = arr.size ∧
 ∀ p : Nat, (List.take off arr.toList ++ l' ++ List.drop (off + l'.length) arr.toList).toArray[p]? = if p < off then arr[p]? else if p < off + l'.length then l'[p - off]? else arr[p]? := by
 refine ⟨by simp; omega, fun p => ?_⟩
 simp only [List.getElem?_toArray, List.getElem?_append, List.length_take, List.length_append, List.getElem?_take, List.getElem?_drop, Array.getElem?_toList, Array.length_toList]
 have hm : min off arr.size = off := by omega
 rw [hm]
 by_cases q1 : p < off
 · simp [q1, show p < off + l'.length by omega]
 · by_cases q2 : p < off + l'.length
   · simp [q1, q2]
   · simp only [q1, q2, if_false]
     congr 1; omega
theorem LR.agU {l l' : List Value} (hl : LR φ l l') (og : ∀ v ∈ l, dZ v = true) : ∀ v ∈ l', v.oneCell' = true := by
 intro v' jQ
 have hlen := hl.length
 obtain ⟨j, hj⟩ := List.getElem?_of_mem jQ
 have Bs : j < l.length := by rw [hlen]; exact (List.getElem?_eq_some_iff.1 hj).1
 obtain ⟨u, hu, hr⟩ := LR.get hl j _ (List.getElem?_eq_getElem Bs)
 rw [hj] at hu; cases hu
 exact hr.dZ (og _ (List.getElem_mem Bs))
theorem W8 {c : Call} {t u e' eu : TypeId} {i : TypeInfo} {z : Value} {p p' q' : Value} {n : Nat} {xs l7 : List Value} (bO : ∀ {v' : Value} {w' : World}, (Builtin.append_ c.argTypes o.type #[p', q']).run P w = .ok v' w' → (execOp ρ o).run P w = .ok (.value v') w')
 (h0 : c.argTypes[0]? = some t) (h1 : c.argTypes[1]? = some u) (ht : P.underlying t = some (.slice e')) (hu : P.underlying u = some (.slice eu) ∨ P.underlying u = some .string)
 (hi : P.info? e' = some i) (hz : i.zero = some z) (uW : i.bytes ≤ 65536) (lg : z.cells.size = i.size) (ef : 0 < i.size) (H : HR P w0 φ h w) (hr : VR φ p p') (mQ : xs.length = n * i.size) (qd : LR φ xs l7)
 (hlen : (Builtin.lenOf q').run P w = .ok n w) (qe : ∀ w', w'.heap = w.heap → (Builtin.firstCells i.size n q').run P w' = .ok l7.toArray w')
 (e2 : jV p (ya h e' i.size n xs k) (yb h e' i.size n xs k) = true) : PR P w0 φ h ((execOp ρ o).run P w) fun v h' => k v h' = true := by
 have anx := qd.length
 have hbound : ∀ m, m ≤ 1048576 → m * i.bytes ≤ 140737488355328 := fun m hm => Nat.le_trans (Nat.mul_le_mul hm uW) (by decide)
 rcases oe e2 with ⟨l0, c0, al, e3⟩ | ⟨a, len, cap, al, e3⟩ <;> subst al
 · obtain ⟨rfl, rfl, hx⟩ := hr.pD
   unfold ya at e3
   by_cases hn : n = 0
   · subst hn
     rw [j7 rfl, cond_true] at e3
     have jS : l7 = [] := List.eq_nil_of_length_eq_zero (by omega)
     subst jS
     exact .same H (bO (by rw [hx]; exact G4 ht hu hi h0 h1 (a := none) hlen (qe w rfl) rfl (by omega))) .lO e3
   · rw [eO hn, cond_false] at e3
     obtain ⟨xP, e4⟩ := bV e3
     have xP := Nat.le_of_ble_eq_true xP
     obtain ⟨og, cc, aS, g1, g2, g3⟩ := qK e4
     rw [bT] at g3
     obtain ⟨nc, q1, q2⟩ := G5 (P := P) (ty := o.type) ht hu hi hz h0 h1 (a := none) (sLen := 0) (sCap := 0) (olds := []) hlen qe (fun w' _ => by simp [Builtin.firstCells]) (by omega) (by rw [Nat.zero_add]; exact hbound n xP) (by omega)
     rw [← hx] at q2
     simp only [Nat.zero_add, List.nil_append] at q1 q2
     exact PR.G6 (o := 0) H ef lg qd mQ q1 (fun j v hj => by rw [Nat.zero_add]; exact g1 j v hj) (by rw [Nat.zero_add]; exact g2) g3 (bO q2)
 · obtain ⟨a', cH, hx, hs, gN⟩ := hr.ni
   have GI : len ≤ cH := by
    rcases gN with ⟨_, h2, h3, _⟩ | ⟨_, _, _, h3, _⟩ <;> omega
   have cw : 0 < cH → AtR φ a a' := by
    intro hp
    rcases gN with ⟨_, h2, h3, h4⟩ | ⟨_, _, _, h3, h4⟩
    · exact h4 (by omega)
    · exact (h4 hp).1
   unfold yb at e3
   by_cases hn : n = 0
   · subst hn
     rw [j7 rfl, cond_true] at e3
     have jS : l7 = [] := List.eq_nil_of_length_eq_zero (by omega)
     subst jS
     refine .same H (bO (by rw [hx]; exact G4 ht hu hi h0 h1 (a := some a') hlen (qe w rfl) rfl (by omega))) ?_ e3
     exact .sl _ _ _ _ _ hs gN
   · rw [eO hn, cond_false, bT] at e3
     obtain ⟨BL, e4⟩ := bV e3
     have BL : len + n ≤ 1048576 := Nat.le_of_ble_eq_true BL
     have hold : ∀ {lo cz : Nat} {ty : TypeId} {lQ : Bool} {cc : NT Value}, h.ob.get a.block = some (.cells lo cz ty lQ cc) → lo ≤ a.off → a.off + len * i.size ≤ cz →
      ∃ l l', l.length = len * i.size ∧ (∀ j v, l[j]? = some v → cc.get (a.off + j) = some v) ∧ LR φ l l' ∧ ∀ w', w'.heap = w.heap → (Builtin.firstCells i.size len (.slice (some a') len cH)).run P w' = .ok l'.toArray w' := by
      intro lo cz ty lQ cc g1 g2 g3
      by_cases jz : len = 0
      · subst jz
        exact ⟨[], [], by simp, fun j v hj => by simp at hj, .nil, fun w' _ => by simp [Builtin.firstCells, loadCells, loadCellsFrom]⟩
      · exact H.agR (P := P) hs (cw (by omega)) g1 _ g2 g3
     cases hb : Nat.ble aU cap with
     | true =>
      rw [hb, cond_true] at e4
      have hb := Nat.le_of_ble_eq_true hb
      unfold FC at e4
      obtain ⟨G7, e5⟩ := bV e4
      have G7 : cap = aU + i.size := Nat.eq_of_beq_eq_true G7
      obtain ⟨lo, cz, ty, lQ, cc, g1, e6⟩ := rl e5
      obtain ⟨g2, e7⟩ := bV e6
      simp only [Bool.and_eq_true] at g2
      obtain ⟨⟨⟨⟨g2, g3⟩, g4⟩, g5⟩, g6⟩ := g2
      subst g2
      obtain rfl := Nat.eq_of_beq_eq_true g3
      have g4 := Nat.le_of_ble_eq_true g4
      have g5 : a.off + len * i.size ≤ cz := Nat.le_of_ble_eq_true g5
      have og := Gj _ g6
      obtain ⟨Yf, k1, e8⟩ := mF e7
      rw [bT] at e8
      obtain ⟨c2, e9, k2, k3⟩ := Gg _ e8
      rw [bT] at e9
      obtain ⟨Mq, k4, zW⟩ := sE e9
      obtain ⟨ol, Py, m1, m2, m3, m4⟩ := hold g1 g4 g5
      have H1 := H.kill (P := P) (w := w) (h' := ⟨h.nx, Yf⟩) hs k1 rfl
      have E1 : Ext h.nx φ (φ.put a.block .dead) := aE.Fw φ _ _ hs
      have agV : ∀ j v, (ol ++ xs)[j]? = some v → c2.get (a.off + j) = some v := by
       intro j v hj
       rw [List.getElem?_append] at hj
       split at hj
       · rename_i bG
         rw [k3 _ (.inl (by show a.off + j < a.off + len * i.size; omega))]
         exact m2 j v hj
       · have := k2 _ v hj
         rw [← this]; congr 1
         show a.off + j = a.off + len * i.size + (j - ol.length)
         omega
      have BM : (ol ++ xs).length = (len + n) * i.size := by rw [List.length_append, m1, mQ, Nat.add_mul]
      have bY : (⟨h.nx, Yf⟩ : AH).ob.iy h.nx (some (.cells a.off (a.off + (ol ++ xs).length) ty true c2)) Mq := by
       rw [BM]; exact k4
      have Mm : LR (φ.put a.block .dead) (ol ++ xs) (Py ++ l7) := LR.append (LR.ext E1 qd) (LR.ext E1 m3)
      by_cases mR : len + n ≤ cH
      · -- in place
        obtain ⟨sz, q1, q2, q3, q4⟩ : ∃ sz, cap = aU + sz ∧ 0 < sz ∧ len ≤ cH ∧ (0 < cH → AtR φ a a' ∧ ∀ b d n, φ a.block = some (.live b d n) → a'.off + cH * sz ≤ n) := by
         rcases gN with ⟨h2, _⟩ | h2
         · omega
         · exact h2
        have agW : sz = i.size := by omega
        subst agW
        obtain ⟨Bl, Pz⟩ := q4 (by omega)
        obtain ⟨B, d, arr, fr, v1, v2, v3, v4, v5, v6, v7, v8, v9⟩ := H.at hs Bl g1
        obtain rfl := v9 rfl
        have Pz := Pz _ _ _ v1
        have hmul : (len + n) * i.size ≤ cH * i.size := Nat.mul_le_mul mR (Nat.le_refl _)
        have anz : (len + n) * i.size = len * i.size + n * i.size := Nat.add_mul _ _ _
        have yp : a'.off + len * i.size + l7.length ≤ arr.size := by omega
        have iz := run_storeCells_at P B (a'.off + len * i.size) ty l7 0 arr w v5 (by simpa using yp) (LR.agU qd og)
        simp only [Nat.add_zero] at iz
        obtain ⟨x1, x2⟩ := agT arr l7 (a'.off + len * i.size) yp
        generalize hX : (List.take (a'.off + len * i.size) arr.toList ++ l7 ++ List.drop (a'.off + len * i.size + l7.length) arr.toList).toArray = X at iz x1 x2
        have E7 : a'.add (len * i.size) = ⟨B, a'.off + len * i.size, none⟩ := by rw [lv a' v4, v2]
        have BN := G4 (P := P) (ty := o.type) ht hu hi h0 h1 (a := some a') (sLen := len) (sCap := cH) hlen (qe w rfl) (by simp only []; rw [E7]; exact iz) mR
        rw [← hx] at BN
        have hor : OR P (φ.put a.block .dead) d arr.size (.cells a.off (a.off + (ol ++ xs).length) ty true c2) (.cells X ty (0, 0)) := by
         refine .cells _ _ _ _ _ _ _ _ _ (fun _ => rfl) (by omega) x1.symm fun p p1 p2 => ?_
         rw [BM] at p2
         rw [x2]
         by_cases hp : p < a.off + len * i.size
         · obtain ⟨v, v', y1, y2, y3⟩ := v7 p (by omega) (by omega)
           exact ⟨v, v', by rw [k3 p (.inl hp)]; exact y1, by rw [if_pos (by omega)]; exact y2, VR.ext E1 y3⟩
         · obtain ⟨j, rfl⟩ : ∃ j, p = a.off + len * i.size + j := ⟨p - (a.off + len * i.size), by omega⟩
           have hj : j < xs.length := by omega
           obtain ⟨y, y1, y2⟩ := LR.get qd j _ (List.getElem?_eq_getElem hj)
           refine ⟨xs[j], y, k2 j _ (List.getElem?_eq_getElem hj), ?_, VR.ext E1 y2⟩
           rw [if_neg (by omega), if_pos (by omega), show a.off + len * i.size + j - d - (a'.off + len * i.size) = j by omega]
           exact y1
        obtain ⟨r1, r2⟩ := H1.agS (P := P) (f := h.nx) (B := B) (h' := ⟨h.nx + 1, Mq⟩) (w' := w.setRow B X) (by rw [aE.gT _ _ (fun e => hs (by rw [← e]; exact H.fresh _ (Nat.le_refl _)))]; exact H.fresh _ (Nat.le_refl _))
         (fun g b' d' n' hg hbB => by
          by_cases PA : g = a.block
          · subst PA; rw [aE.gP] at hg; cases hg
          · rw [aE.gT _ _ PA] at hg
            subst hbB
            exact PA (H.inj g a.block b' d' d n' arr.size (v8 rfl) hg v1)) bY (by simp) (by simp) h.nx (Nat.le_refl _) hor (v8 rfl) (setRow_heap w B arr X ty (0, 0) v5) (fun k hk => by
          unfold World.setRow
          simp only [Array.getElem?_modify]
          rw [if_neg (by omega)]) (by simp) rfl rfl rfl
        refine ⟨_, _, _, _, _, .inl (bO BN), zW, E1.trans r2 (Nat.le_refl _), by simp, .sl _ _ _ _ _ (by simp [aE.put]) (.inr ⟨i.size, G7, ef, mR, fun _ => ⟨fun b d' m hl => ?_, fun b d' m hl => ?_⟩⟩), r1⟩
        · simp only [aE.gP] at hl
          cases hl
          exact ⟨v2, v3, v4⟩
        · simp only [aE.gP] at hl
          cases hl
          exact Pz
      · -- anA
        obtain ⟨nc, q1, q2⟩ := G5 (P := P) (ty := o.type) ht hu hi hz h0 h1 (a := some a') (sLen := len) (sCap := cH) hlen qe m4 (by omega) (hbound _ BL) (by omega)
        rw [← hx] at q2
        have := PR.G6 (P := P) (w0 := w0) (o := a.off) H1 ef lg Mm BM q1 agV bY (by rw [G7] at zW; exact zW) (bO q2)
        obtain ⟨v', w', v, h', φ', r1, r2, r3, r4, r5, r6⟩ := this
        exact ⟨v', w', v, h', φ', r1, r2, E1.trans r3 (Nat.le_refl _), r4, r5, r6⟩
     | false =>
      rw [hb, cond_false] at e4
      have jy : cap < aU := by rw [sC] at hb; simpa using hb
      obtain ⟨AN, PB⟩ : cH = cap ∧ (0 < cap → AtR φ a a') := by
       rcases gN with ⟨_, h2, _, h3⟩ | ⟨sz, h2, _⟩
       · exact ⟨h2, h3⟩
       · omega
      cases ll : Nat.ble (Nat.add len n) cap with
      | true =>
       rw [ll, cond_true, bT] at e4
       have mR : len + n ≤ cap := Nat.le_of_ble_eq_true ll
       obtain ⟨lo, cz, ty, cc, cc', aS, g1, g2, g3, g4, g5, g6, g7, g8⟩ := LU e4
       have Bl := (PB (by omega)).add (len * i.size)
       obtain ⟨w', q1, q2, _⟩ := H.write (P := P) (a := ⟨a.block, a.off + len * i.size, none⟩) hs Bl g1 g2 g3 qd g4 g5 g6 g7
       have BN := G4 (P := P) (ty := o.type) ht hu hi h0 h1 (a := some a') (sLen := len) (sCap := cH) hlen (qe w rfl) q1 (by omega)
       rw [← hx] at BN
       exact ⟨_, _, _, _, _, .inl (bO BN), g8, Ext.refl _ _, Nat.le_refl _, .sl _ _ _ _ _ hs (.inl ⟨jy, AN, mR, PB⟩), q2⟩
      | false =>
       rw [ll, cond_false] at e4
       have anB : ¬ (len + n ≤ cap) := by rw [sC] at ll; simpa using ll
       by_cases jz : len = 0
       · subst jz
         rw [j7 rfl, cond_true] at e4
         obtain ⟨og, cc, aS, g1, g2, g3⟩ := qK e4
         rw [bT] at g3
         obtain ⟨nc, q1, q2⟩ := G5 (P := P) (ty := o.type) ht hu hi hz h0 h1 (a := some a') (sLen := 0) (sCap := cH) (olds := []) hlen qe (fun w' _ => by simp [Builtin.firstCells, loadCells, loadCellsFrom]) (by omega) (hbound _ BL) (by omega)
         rw [← hx] at q2
         simp only [Nat.zero_add, List.nil_append] at q1 q2
         refine PR.G6 (o := 0) H ef lg qd mQ q1 (fun j v hj => by rw [Nat.zero_add]; exact g1 j v hj) (by rw [Nat.zero_add]; exact g2) ?_ (bO q2)
         rw [show Nat.add 0 n = n from Nat.zero_add n] at g3
         exact g3
       · rw [eO jz, cond_false] at e4
         obtain ⟨lo, cz, ty, lQ, cc, ol, g1, g2, g3, g4, g5, g6⟩ := sD e4
         have e5 := qI _ _ g6
         obtain ⟨og, c2, aS, k1, k2, k3⟩ := qK e5
         rw [bT] at k3
         obtain ⟨Py, m3, m4⟩ := H.cells (P := P) hs (PB (by omega)) g1 g2 (by rw [g4]; exact g3) g5
         rw [g4] at m4
         obtain ⟨nc, q1, q2⟩ := G5 (P := P) (ty := o.type) ht hu hi hz h0 h1 (a := some a') (sLen := len) (sCap := cH) (olds := Py) hlen qe (fun w' hw => by simp only [Builtin.firstCells]; exact m4 w' hw) (by omega) (hbound _ BL) (by omega)
         rw [← hx] at q2
         have BM : (ol ++ xs).length = (len + n) * i.size := by rw [List.length_append, g4, mQ, Nat.add_mul]; rfl
         exact PR.G6 (o := 0) H ef lg (LR.append qd m3) BM q1 (fun j v hj => by rw [Nat.zero_add]; exact k1 j v hj) (by rw [Nat.zero_add]; exact k2) k3 (bO q2)
theorem adQ {c : Call} {s x : Operand} {t u e' eu : TypeId} {i : TypeInfo} {z : Value} (ho : o.op = .call c) (hc : c.callee = .builtin .append) (ha : c.args = #[s, x]) (h0 : c.argTypes[0]? = some t) (h1 : c.argTypes[1]? = some u) (ht : P.underlying t = some (.slice e')) (hu : P.underlying u = some (.slice eu))
 (hi : P.info? e' = some i) (hz : i.zero = some z) (uW : i.bytes ≤ 65536) (lg : z.cells.size = i.size) (ef : 0 < i.size) (H : HR P w0 φ h w) (hv : LR φ vs ([s, x].map ρ)) (e : VB e' i.size z.cells.toList vs h k = true) : PR P w0 φ h ((execOp ρ o).run P w) fun v h' => k v h' = true := by
 obtain ⟨p, q, al, e1⟩ := gm e; clear e; subst al; have e := e1; clear e1
 obtain ⟨p', q', hp, hr, hq⟩ := hv.two
 simp at hp; obtain ⟨e1, e2⟩ := hp; subst e1 e2
 have bO : ∀ {v' : Value} {w' : World}, (Builtin.append_ c.argTypes o.type #[ρ s, ρ x]).run P w = .ok v' w' → (execOp ρ o).run P w = .ok (.value v') w' := by
  intro v' w' hh
  rw [j9 ho hc]
  simp [builtin, ha, hh]
 obtain ⟨n, xs, l7, e1, mQ, qd, hlen, qe⟩ := agO (P := P) H hq e
 obtain ⟨_, e2⟩ := bV e1
 exact W8 (p := p) (p' := ρ s) (q' := ρ x) bO h0 h1 ht (.inl hu) hi hz uW lg ef H hr mQ qd hlen qe e2
end
end Go.Ve
namespace Go.Ve
open Go.RowKit
open Go.MapKept (run_findKey sameBits_self IsKey)
section
variable {P : Program} {w0 w : World} {φ : aE} {h : AH} {ρ : Operand → Value} {o : Oper} {vs : List Value} {k : KV}
theorem acK {c : Call} {x y : Operand} (ho : o.op = .call c) (hc : c.callee = .builtin .max) (ha : c.args = #[x, y]) (H : HR P w0 φ h w) (hv : LR φ vs ([x, y].map ρ)) (e : LK vs h k = true) : PR P w0 φ h ((execOp ρ o).run P w) fun v h' => k v h' = true := by
 obtain ⟨p, q, al, e1⟩ := gm e; clear e; subst al; have e := e1; clear e1
 obtain ⟨p', q', hp, hr, hq⟩ := hv.two
 simp at hp; obtain ⟨e1, e2⟩ := hp; subst e1 e2
 obtain ⟨kx, a, al, e1⟩ := lP e; clear e; subst al; have e := e1; clear e1
 obtain ⟨ky, b, al, e1⟩ := lP e; clear e; subst al; have e := e1; clear e1
 obtain ⟨hk, e1⟩ := bV e; clear e
 obtain rfl := mD hk
 rw [xC] at e1
 have hx := hr.fX
 have hy := hq.fX
 have bO : (execOp ρ o).run P w = .ok (.value (.int kx (if b > a then b else a))) w := by
  rw [j9 ho hc]
  simp [builtin, ha, hx, hy, run_max_int2]
 refine .same H bO (.int _ _) ?_
 by_cases mE : a < b
 · rw [if_pos mE]; simpa [mE] using e1
 · rw [if_neg mE]; simpa [mE] using e1
theorem acL {c : Call} {x y : Operand} (ho : o.op = .call c) (hc : c.callee = .builtin .min) (ha : c.args = #[x, y]) (H : HR P w0 φ h w) (hv : LR φ vs ([x, y].map ρ)) (e : LM vs h k = true) : PR P w0 φ h ((execOp ρ o).run P w) fun v h' => k v h' = true := by
 obtain ⟨p, q, al, e1⟩ := gm e; clear e; subst al; have e := e1; clear e1
 obtain ⟨p', q', hp, hr, hq⟩ := hv.two
 simp at hp; obtain ⟨e1, e2⟩ := hp; subst e1 e2
 obtain ⟨kx, a, al, e1⟩ := lP e; clear e; subst al; have e := e1; clear e1
 obtain ⟨ky, b, al, e1⟩ := lP e; clear e; subst al; have e := e1; clear e1
 obtain ⟨hk, e1⟩ := bV e; clear e
 obtain rfl := mD hk
 rw [xC] at e1
 have hx := hr.fX
 have hy := hq.fX
 have bO : (execOp ρ o).run P w = .ok (.value (.int kx (if b < a then b else a))) w := by
  rw [j9 ho hc]
  simp [builtin, ha, hx, hy, run_min_int2]
 refine .same H bO (.int _ _) ?_
 by_cases mE : b < a
 · rw [if_pos mE]; simpa [mE] using e1
 · rw [if_neg mE]; simpa [mE] using e1
theorem acM {c : Call} {d s : Operand} {t e' : TypeId} {i : TypeInfo} (ho : o.op = .call c) (hc : c.callee = .builtin .copy) (ha : c.args = #[d, s]) (h0 : c.argTypes[0]? = some t) (ht : P.underlying t = some (.slice e'))
 (hi : P.info? e' = some i) (H : HR P w0 φ h w) (hv : LR φ vs ([d, s].map ρ)) (e : T6 i.size vs h k = true) : PR P w0 φ h ((execOp ρ o).run P w) fun v h' => k v h' = true := by
 obtain ⟨p, q, al, e1⟩ := gm e; clear e; subst al; have e := e1; clear e1
 obtain ⟨p', q', hp, hr, hq⟩ := hv.two
 simp at hp; obtain ⟨e1, e2⟩ := hp; subst e1 e2
 have bO : ∀ {v' : Value} {w' : World}, (Builtin.copy_ c.argTypes o.type #[ρ d, ρ s]).run P w = .ok v' w' → (execOp ρ o).run P w = .ok (.value v') w' := by
  intro v' w' hh
  rw [j9 ho hc]
  simp [builtin, ha, hh]
 have cw : ∀ {a a' : Addr} {len cap cH : Nat}, qF φ a a' len cap cH → 0 < len → AtR φ a a' := by
  intro a a' len cap cH gN hp
  rcases gN with ⟨_, h2, _, h4⟩ | ⟨_, _, _, h3, h4⟩
  · exact h4 (by omega)
  · exact (h4 (by omega)).1
 rcases oe e with ⟨l0, c0, al, e3⟩ | ⟨a, len, cap, al, e3⟩ <;> clear e <;> subst al
 · obtain ⟨rfl, rfl, hx⟩ := hr.pD
   rcases oe e3 with ⟨l1, c1, al, e4⟩ | ⟨b, nh, acN, al, e4⟩ <;> subst al
   · obtain ⟨rfl, rfl, hy⟩ := hq.pD
     exact .same H (bO (by rw [hx, hy]; simp [Builtin.copy_, h0, run_underlying ht, Builtin.lenOf, iJ hi, Builtin.firstCells, goInt])) (.int _ _) e4
   · obtain ⟨b', acO, hy, _, _⟩ := hq.ni
     exact .same H (bO (by rw [hx, hy]; simp [Builtin.copy_, h0, run_underlying ht, Builtin.lenOf, iJ hi, Builtin.firstCells, goInt, loadCells, loadCellsFrom])) (.int _ _) e4
 · obtain ⟨a', cH, hx, hs, gN⟩ := hr.ni
   rcases oe e3 with ⟨l1, c1, al, e4⟩ | ⟨b, nh, acN, al, e4⟩ <;> subst al
   · obtain ⟨rfl, rfl, hy⟩ := hq.pD
     exact .same H (bO (by rw [hx, hy]; simp [Builtin.copy_, h0, run_underlying ht, Builtin.lenOf, iJ hi, Builtin.firstCells, goInt, storeCells])) (.int _ _) e4
   · obtain ⟨b', acO, hy, qH, acP⟩ := hq.ni
     rw [bT] at e4
     have acQ : (bif Nat.ble nh len then nh else len) = Nat.min nh len := by
      rw [sC]
      by_cases hle : nh ≤ len
      · simp [hle, Nat.min_eq_left hle, Nat.min_def]
      · simp [hle, Nat.min_def]
     rw [acQ] at e4
     by_cases hn : Nat.min nh len = 0
     · rw [hn, j7 rfl, cond_true] at e4
       exact .same H (bO (by rw [hx, hy]; simp [Builtin.copy_, h0, run_underlying ht, Builtin.lenOf, iJ hi, Builtin.firstCells, goInt, hn, loadCells, loadCellsFrom, storeCells])) (.int _ _) e4
     · rw [eO hn, cond_false] at e4
       have LN : 0 < nh := by have := Nat.min_le_left nh len; simp only [Nat.min_def] at hn this; split at hn <;> omega
       have LQ : 0 < len := by simp only [Nat.min_def] at hn; split at hn <;> omega
       obtain ⟨lo, cz, ty, lQ, cc, l, g1, g2, g3, g4, g5, g6⟩ := sD e4
       obtain ⟨l', q1, q2⟩ := H.cells (P := P) qH (cw acP LN) g1 g2 (by rw [g4]; exact g3) g5
       obtain ⟨lo2, eP, ty2, c2, c2', aS, k1, k2, k3, k4, k5, k6, k7, k8⟩ := LU g6
       obtain ⟨w', r1, r2, _⟩ := H.write (P := P) hs (cw gN LQ) k1 k2 k3 q1 k4 k5 k6 k7
       have T7 := q2 w rfl
       rw [g4] at T7
       have acR : (loadCells b' (Nat.min nh len * i.size)).run P w = .ok l'.toArray w := T7
       refine ⟨_, w', _, _, φ, .inl (bO ?_), k8, Ext.refl _ _, Nat.le_refl _, .int _ _, r2⟩
       rw [hx, hy]
       simp only [Builtin.copy_, h0, Builtin.lenOf]
       simp [run_underlying ht, iJ hi, Builtin.firstCells, goInt, acR, r1]
theorem LR.EY {φ : aE} {l l' : List Value} (h : LR φ l l') : ∀ n, LR φ (iY n l) (iY n l')
 | 0 => .nil
 | n + 1 => LR.append (LR.EY h n) h
theorem T9 : ∀ (n : Nat) {zero : List Value} {k : List Value → Bool}, xD n zero k = true → k (iY n zero) = true
 | 0, zero, k, h => h
 | n + 1, zero, k, h => qI _ _ (T9 n (show xD n zero (fun l => gO zero l k) = true from h))
theorem Ua (z : List Value) : ∀ n, (iY n z).length = n * z.length
 | 0 => by simp [iY]
 | n + 1 => by simp [iY, Ua z n, Nat.add_mul]; omega
theorem Ub (z : List Value) (hz : 0 < z.length) : ∀ (n j : Nat), j < n * z.length → (iY n z)[j]? = z[j % z.length]?
 | 0, j, hj => by omega
 | n + 1, j, hj => by
  simp only [iY, List.getElem?_append]
  by_cases zZ : j < z.length
  · rw [if_pos zZ, Nat.mod_eq_of_lt zZ]
  · rw [if_neg zZ, Ub z hz n _ (by rw [Nat.add_mul] at hj; omega), Nat.mod_eq_sub_mod (by omega : j ≥ z.length)]
theorem LV (z : Array Value) (hz : 0 < z.size) (n : Nat) : (madeCells z (n * z.size)).toList = iY n z.toList := by
 apply List.ext_getElem?
 intro j
 by_cases hj : j < n * z.size
 · rw [Ub z.toList (by simpa using hz) n j (by simpa using hj)]
   have hm : j % z.size < z.size := Nat.mod_lt _ hz
   simp [madeCells, hj, hm]
 · rw [List.getElem?_eq_none (by simp [madeCells]; omega), List.getElem?_eq_none (by rw [Ua]; simpa using by omega)]
theorem acS {t e' : TypeId} {x y : Operand} {i : TypeInfo} {z : Value} (ho : o.op = .makeSlice t x y) (ht : P.underlying t = some (.slice e')) (hi : P.info? e' = some i) (hz : i.zero = some z) (eD : xE z = true) (uW : i.bytes ≤ 65536) (lg : z.cells.size = i.size) (ef : 0 < i.size)
 (H : HR P w0 φ h w) (hv : LR φ vs ([x, y].map ρ)) (e : Uc e' i.size z.cells.toList vs h k = true) : PR P w0 φ h ((execOp ρ o).run P w) fun v h' => k v h' = true := by
 obtain ⟨p, q, al, e1⟩ := gm e; clear e; subst al; have e := e1; clear e1
 obtain ⟨p', q', hp, hr, hq⟩ := hv.two
 simp at hp; obtain ⟨e1, e2⟩ := hp; subst e1 e2
 obtain ⟨kl, l, al, e1⟩ := qJ e; clear e; subst al; have e := e1; clear e1
 obtain ⟨kc, c, al, e1⟩ := qJ e; clear e; subst al; have e := e1; clear e1
 obtain ⟨g, e1⟩ := bV e
 simp only [Bool.and_eq_true] at g
 obtain ⟨⟨g1, g2⟩, g3⟩ := g
 have g1 := Nat.le_of_ble_eq_true g1
 have g2 := Nat.le_of_ble_eq_true g2
 have e2 := T9 _ e1
 obtain ⟨og, cc, aS, k1, k2, k3⟩ := qK e2
 have hb : (i.bytes : Int) * (Int.ofNat c) ≤ 281474976710656 := by
  have : i.bytes * c ≤ 65536 * 65536 := Nat.mul_le_mul uW g2
  simp only [Int.ofNat_eq_natCast]
  rw [← Int.natCast_mul]; omega
 have bO := run_make (P := P) w t e' i z ht hi hz kl kc (Int.ofNat l) (Int.ofNat c) (by simp) (by simp only [Int.ofNat_eq_natCast]; omega) hb (by simp only [Int.ofNat_eq_natCast]; omega)
 have hm : madeCells z.cells (c * i.size) = (iY c z.cells.toList).toArray := by
  apply Array.ext'
  rw [← lg, LV z.cells (by omega) c]
 have hc : (Int.ofNat c).toNat = c := rfl
 have hl : (Int.ofNat l).toNat = l := rfl
 rw [hc, hl, hm] at bO
 obtain ⟨r1, r2⟩ := PR.newRow H (LR.EY (VR.cells (oh (φ := φ) eD)) c) k1 k2
 refine ⟨.slice (some ⟨w.heap.size, 0, none⟩) l c, _, _, _, _, .inl (by simp only [execOp, ho, hr.fX, hq.fX]; simp only [Sem.run_bind, bO, Result.andThen_ok, Sem.run_pure]), k3, r2, by simp, .sl _ _ _ _ _ (by simp [aE.put]) (.inl ⟨by unfold aU; omega, rfl, g1, fun _ b d n hl => ?_⟩), r1⟩
 simp only [aE.gP] at hl
 cases hl
 exact ⟨rfl, rfl, rfl⟩
theorem xF {d : TypeDesc} {kc : Nat} {a b : Value} {r : Bool} (hk : iZ d = some kc) (he : lh kc a b = some r) : Instr.sameNow d a b = some r := by
 unfold lh at he
 split at he <;> first | (cases he; done) | skip
 · rename_i k1 x k2 y
   cases dM : fy k1 k2 with
   | false => rw [dM] at he; cases he
   | true =>
    rw [dM] at he
    simp only [cond_true, Option.some.injEq] at he
    obtain rfl := mD dM
    unfold iZ at hk
    split at hk <;> first | (cases hk; done) | skip
    subst he
    simp [Instr.sameNow, qL]
 · rename_i x y
   simp only [Option.some.injEq] at he
   unfold iZ at hk
   split at hk <;> first | (cases hk; done) | skip
   subst he
   cases x <;> cases y <;> rfl
 · rename_i x y
   simp only [Option.some.injEq] at he
   unfold iZ at hk
   split at hk <;> first | (cases hk; done) | skip
   subst he
   simp only [Instr.sameNow, eqStr, beq_toListBytes]
theorem Ud {kc : Nat} {d : TypeDesc} (hk : iZ d = some kc) : ∀ {es : List (Value × Value × Nat)} {cn : List MapEntry} {x x' : Value} {kk : Option Value → Bool} (i : Nat), ER φ es cn → VR φ x x' → uX kc es x kk = true →
 (kk none = true ∧ Instr.findNow d x' cn i = some none) ∨ ∃ v v' j, kk (some v) = true ∧ VR φ v v' ∧ Instr.findNow d x' cn i = some (some (j, v'))
 | _, _, x, x', kk, i, .nil, hx, h => .inl ⟨h, rfl⟩
 | _, _, x, x', kk, i, .cons a v b e l l' ha hv hb hl, hx, h => by
  unfold uX at h
  split at h
  · rename_i he
    obtain ⟨rfl, h2⟩ := z6 hx ha he
    exact .inr ⟨v, e.val, i, h, hv, by simp [Instr.findNow, h2, xF hk he]⟩
  · rename_i he
    obtain ⟨h1, h2⟩ := z6 hx ha he
    rcases Ud hk (i + 1) hl hx h with ⟨q1, q2⟩ | ⟨v1, v2, j, q1, q2, q3⟩
    · exact .inl ⟨q1, by subst h1; simp [Instr.findNow, h2, xF hk he, q2]⟩
    · exact .inr ⟨v1, v2, j, q1, q2, by subst h1; simp [Instr.findNow, h2, xF hk he, q3]⟩
  · cases h
theorem Ue {kc : Nat} {d : TypeDesc} {t : TypeId} {x : Value} {b : Bool} (hu : P.underlying t = some d) (hk : iZ d = some kc) : (Instr.checkKey b 10000 t x).run P w = .ok () w := by
 rw [show (10000 : Nat) = 9999 + 1 from rfl]
 unfold Instr.checkKey
 simp only [Sem.run_bind, run_underlying hu, Result.andThen_ok]
 unfold iZ at hk
 split at hk <;> first | (cases hk; done) | skip
 all_goals (cases x <;> rfl)
theorem acT {t kt e' : TypeId} {m x : Operand} {kc : Nat} {z : Value} {ok : Bool} (ho : o.op = .lookup t m x ok) (ht : P.underlying t = some (.map kt e')) (hk : (P.underlying kt).bind iZ = some kc) (hz : zeroOf P e' = some z)
 (H : HR P w0 φ h w) (hv : LR φ vs ([m, x].map ρ)) (e : LW kc z ok vs h k = true) : PR P w0 φ h ((execOp ρ o).run P w) fun v h' => k v h' = true := by
 obtain ⟨i, hi, hz, eD⟩ := nj hz
 obtain ⟨d, hd, z7⟩ : ∃ d, P.underlying kt = some d ∧ iZ d = some kc := by
  cases hu : P.underlying kt with
  | none => simp [hu] at hk
  | some d => exact ⟨d, rfl, by simpa [hu] using hk⟩
 obtain ⟨p, q, al, e1⟩ := gm e; clear e; subst al; have e := e1; clear e1
 obtain ⟨p', q', hp, hr, hq⟩ := hv.two
 simp at hp; obtain ⟨e1, e2⟩ := hp; subst e1 e2
 obtain ⟨_, e1⟩ := bV e
 have fin : ∀ {ov : Option Value} {es : Array MapEntry}, EZ z ok h k ov = true →
  ((ρ m = .map none ∧ es = #[]) ∨ ∃ r cl, ρ m = .map (some r) ∧ w.heap[r]? = some (.map es cl)) →
  ((ov = none ∧ Instr.findNow d (ρ x) es.toList 0 = some none) ∨ ∃ v v' j, ov = some v ∧ VR φ v v' ∧ Instr.findNow d (ρ x) es.toList 0 = some (some (j, v'))) → PR P w0 φ h ((execOp ρ o).run P w) fun v h' => k v h' = true := by
  intro ov es q1 q2 q3
  have qM : ∀ b, (Instr.checkKey b 10000 kt (ρ x)).run P w = .ok () w := fun b => Ue hd z7
  rcases q3 with ⟨rfl, q3⟩ | ⟨v, v', j, rfl, q4, q3⟩
  · have hf := run_findKey (P := P) (w := w) hd q3
    have bO : (execOp ρ o).run P w = .ok (.value (if ok = true then .tuple #[z, .bool false] else z)) w := by
     rcases q2 with ⟨q2, rfl⟩ | ⟨r, cl, q2, q5⟩
     · simp only [execOp, ho, Instr.lookup, Sem.run_bind, run_underlying ht, Result.andThen_ok, q2]
       simp [qM, hf, pE hi hz]
     · simp only [execOp, ho, Instr.lookup, Sem.run_bind, run_underlying ht, Result.andThen_ok, q2]
       simp [getObj, Sem.run, q5, qM, hf, pE hi hz]
    cases ok with
    | true => exact .same H bO (.fx _ _ (.cons _ _ _ _ (oh eD) (.cons _ _ _ _ (.bool _) .nil))) q1
    | false => exact .same H bO (oh eD) q1
  · have hf := run_findKey (P := P) (w := w) hd q3
    have bO : (execOp ρ o).run P w = .ok (.value (if ok = true then .tuple #[v', .bool true] else v')) w := by
     rcases q2 with ⟨q2, rfl⟩ | ⟨r, cl, q2, q5⟩
     · simp only [execOp, ho, Instr.lookup, Sem.run_bind, run_underlying ht, Result.andThen_ok, q2]
       simp [qM, hf]
     · simp only [execOp, ho, Instr.lookup, Sem.run_bind, run_underlying ht, Result.andThen_ok, q2]
       simp [getObj, Sem.run, q5, qM, hf]
    cases ok with
    | true => exact .same H bO (.fx _ _ (.cons _ _ _ _ q4 (.cons _ _ _ _ (.bool _) .nil))) q1
    | false => exact .same H bO q4 q1
 rcases E0 e1 with ⟨al, e2⟩ | ⟨r, al, e2⟩ <;> subst al
 · exact fin (es := #[]) e2 (.inl ⟨hr.LX, rfl⟩) (.inl ⟨rfl, rfl⟩)
 · obtain ⟨r', hx, hs, oi⟩ := hr.E4
   obtain ⟨es, cl, g1, g2⟩ := uY e2
   obtain ⟨dd, n, cn, _, m2, m3, _⟩ := H.LY hs oi g1
   rcases Ud z7 0 m3 hq g2 with ⟨q1, q2⟩ | ⟨v1, v2, j, q1, q2, q3⟩
   · exact fin q1 (.inr ⟨r', cl, hx, m2⟩) (.inl ⟨rfl, q2⟩)
   · exact fin q1 (.inr ⟨r', cl, hx, m2⟩) (.inr ⟨v1, v2, j, rfl, q2, q3⟩)
end
end Go.Ve
namespace Go.Ve
open Go.RowKit
open Go.MapKept (run_findKey bytes_beq)
section
variable {P : Program} {w0 w : World} {φ : aE} {h : AH} {ρ : Operand → Value} {o : Oper} {vs : List Value} {k : KV}
theorem acU {kc : Nat} {a b : Value} (he : lh kc a b = some true) : a = b := by
 unfold lh at he
 split at he <;> first | (cases he; done) | skip
 · rename_i k1 x k2 y
   cases dM : fy k1 k2 with
   | false => rw [dM] at he; cases he
   | true =>
    rw [dM] at he
    simp only [cond_true, Option.some.injEq, qL, beq_iff_eq] at he
    rw [mD dM, he]
 · rename_i x y
   cases x <;> cases y <;> first | rfl | (simp at he)
 · rename_i x y
   simp only [Option.some.injEq, eqStr] at he
   rw [← beq_toListBytes] at he
   rw [(bytes_beq x y).1 he]
theorem acV {kc : Nat} {x x' : Value} (hx : VR φ x x') (ho : z8 kc x = true) : Instr.sameBits 10000 x' x' = true := by
 rw [show (10000 : Nat) = 9999 + 1 from rfl]
 unfold z8 at ho
 split at ho <;> first | (cases ho; done) | skip
 · rw [hx.fX]; simp [Instr.sameBits]
 · rw [hx.pC]; simp [Instr.sameBits]
 · rw [hx.ja]; simp [Instr.sameBits, bytes_beq]
theorem Uf {kc : Nat} {d : TypeDesc} (hk : iZ d = some kc) : ∀ {es : List (Value × Value × Nat)} {cn : List MapEntry} {x x' y y' : Value} {cl : Nat} {kk : List (Value × Value × Nat) → Nat → Bool} (i : Nat), ER φ es cn → VR φ x x' → VR φ y y' → nn kc es x y cl kk = true →
 ∃ xG xJ, kk xG xJ = true ∧ ((Instr.findNow d x' cn i = some none ∧ xJ = cl + 1 ∧ ER φ xG (cn ++ [{ key := x', val := y', born := cl }])) ∨
  ∃ j v' e, Instr.findNow d x' cn i = some (some (i + j, v')) ∧ xJ = cl ∧ cn[j]? = some e ∧ e.key = x' ∧ ER φ xG (cn.modify j fun e => { e with key := x', val := y' }))
 | _, _, x, x', y, y', cl, kk, i, .nil, hx, hy, h => by
  simp only [nn, bT] at h
  exact ⟨_, _, h, .inl ⟨rfl, rfl, .cons _ _ _ _ _ _ hx hy rfl .nil⟩⟩
 | _, _, x, x', y, y', cl, kk, i, .cons a v b e l l' ha hv hb hl, hx, hy, h => by
  unfold nn at h
  split at h
  · rename_i he
    obtain ⟨h1, h2⟩ := z6 hx ha he
    have hxa := acU he
    refine ⟨_, _, h, .inr ⟨0, e.val, e, ?_, rfl, rfl, by rw [h2, h1, hxa], ?_⟩⟩
    · subst h1; simp [Instr.findNow, h2, xF hk he]
    · simp only [List.modify_zero_cons]
      exact .cons _ _ _ _ _ _ hx hy hb hl
  · rename_i he
    obtain ⟨h1, h2⟩ := z6 hx ha he
    obtain ⟨xG, xJ, q1, q2⟩ := Uf hk (i + 1) hl hx hy h
    rcases q2 with ⟨q2, q3, q4⟩ | ⟨j, v', e2, q2, q3, q4, q5, q6⟩
    · refine ⟨_, _, q1, .inl ⟨?_, q3, .cons _ _ _ _ _ _ ha hv hb q4⟩⟩
      subst h1; simp [Instr.findNow, h2, xF hk he, q2]
    · refine ⟨_, _, q1, .inr ⟨j + 1, v', e2, ?_, q3, by simpa using q4, q5, ?_⟩⟩
      · subst h1; simp [Instr.findNow, h2, xF hk he, q2]; omega
      · simp only [List.modify_succ_cons]
        exact .cons _ _ _ _ _ _ ha hv hb q6
  · cases h
theorem Ug {t kt e' : TypeId} {m x y : Operand} {kc : Nat} (ho : o.op = .mapUpdate t m x y ∨ o.op = .insert t m x y) (ht : P.underlying t = some (.map kt e')) (hk : (P.underlying kt).bind iZ = some kc)
 (H : HR P w0 φ h w) (hv : LR φ vs ([m, x, y].map ρ)) (e : Uh kc vs h k = true) : PR P w0 φ h ((execOp ρ o).run P w) fun v h' => k v h' = true := by
 obtain ⟨d, hd, z7⟩ : ∃ d, P.underlying kt = some d ∧ iZ d = some kc := by
  cases hu : P.underlying kt with
  | none => simp [hu] at hk
  | some d => exact ⟨d, rfl, by simpa [hu] using hk⟩
 obtain ⟨p, q, r, al, e1⟩ := Ui e; clear e; subst al; have e := e1; clear e1
 obtain ⟨p', q', r', hp, hr, hq, hy⟩ := hv.three
 simp at hp; obtain ⟨e1, e2, e3⟩ := hp; subst e1 e2 e3
 obtain ⟨hko, e1⟩ := bV e
 have acW := acV hq hko
 have bO : ∀ {w' : World}, (Instr.mapUpdate t (ρ m) (ρ x) (ρ y)).run P w = .ok () w' → (execOp ρ o).run P w = .ok .skip w' := by
  intro w' hh
  rcases ho with ho | ho <;> simp [execOp, ho, hh]
 rcases E0 e1 with ⟨al, e2⟩ | ⟨r0, al, e2⟩ <;> subst al
 · cases e2
 · obtain ⟨rb, hx, hs, oi⟩ := hr.E4
   obtain ⟨es, cl, g1, g2⟩ := uY e2
   obtain ⟨dd, n, cn, m1, m2, m3, m4⟩ := H.LY hs oi g1
   obtain ⟨xG, xJ, q1, q2⟩ := Uf z7 0 m3 hq hy g2
   obtain ⟨aS, k1, k2⟩ := mF q1
   have qM : (Instr.checkKey false 10000 kt (ρ x)).run P w = .ok () w := Ue hd z7
   have bG : rb < w.heap.size := (Array.getElem?_eq_some_iff.1 m2).1
   have fin : ∀ {es3 : Array MapEntry}, ER φ xG es3.toList → (Instr.mapUpdate t (ρ m) (ρ x) (ρ y)).run P w = .ok () { w with heap := w.heap.setIfInBounds rb (.map es3 xJ) } → PR P w0 φ h ((execOp ρ o).run P w) fun v h' => k v h' = true := by
    intro es3 q3 q4
    refine ⟨undef, _, undef, _, φ, .inr ⟨bO q4, rfl⟩, k2, Ext.refl _ _, Nat.le_refl _, VR.undef _, ?_⟩
    exact H.iK m1 k1 rfl (.map _ _ _ _ _ q3) m4 (by simp [bG]) (fun k hk => by simp [Ne.symm hk]) (by simp) rfl rfl rfl
   rcases q2 with ⟨q2, rfl, q4⟩ | ⟨j, v', e2, q2, rfl, q4, q5, q6⟩
   · refine fin (es3 := cn.push { key := ρ x, val := ρ y, born := cl }) (by simpa using q4) ?_
     have hf := run_findKey (P := P) (w := w) hd q2
     simp [Instr.mapUpdate, run_underlying ht, hx, getObj, setObj, Sem.run, m2, qM, hf]
   · refine fin (es3 := cn.modify j fun e => { e with key := ρ x, val := ρ y }) (by simpa using q6) ?_
     simp only [Nat.zero_add] at q2
     have hf := run_findKey (P := P) (w := w) hd q2
     have E5 : cn[j]? = some e2 := by simpa using q4
     have iz : (Instr.keyThatStays (ρ x) (ρ x)).run P w = .ok (ρ x) w := by simp [Instr.keyThatStays, acW]
     simp [Instr.mapUpdate, run_underlying ht, hx, getObj, setObj, Sem.run, m2, qM, hf, E5, q5, iz]
theorem acX {x : Operand} {xt t : TypeId} {d : TypeDesc} {z : Value} (ho : o.op = .typeAssert x xt t true) (hu : P.underlying t = some d) (hd : ∀ m, d ≠ .interface m) (hz : zeroOf P t = some z) (H : HR P w0 φ h w) (hv : LR φ vs ([x].map ρ)) (e : E6 t z vs h k = true) : PR P w0 φ h ((execOp ρ o).run P w) fun v h' => k v h' = true := by
 obtain ⟨i, hi, hz, eD⟩ := nj hz
 obtain ⟨p, al, e1⟩ := dX e; clear e; subst al; have e := e1; clear e1
 obtain ⟨p', hp, hr⟩ := hv.one
 simp at hp; subst hp
 unfold LZ at e
 have uZ : ∀ v : Value, (execOp ρ o).run P w = ((Instr.typeAssert (ρ x) xt t true).run P w).andThen (fun a w' => .ok (.value a) w') := by intro _; simp [execOp, ho]
 split at e
 · have hx : ρ x = .nilIface := by generalize ρ x = X at hr; cases hr; rfl
   refine .same H (v' := .tuple #[z, .bool false]) ?_ (.fx _ _ (.cons _ _ _ _ (oh eD) (.cons _ _ _ _ (.bool _) .nil))) e
   rw [uZ undef, hx]
   simp only [Instr.typeAssert, Sem.run_bind, run_underlying hu, Result.andThen_ok]
   cases d <;> first | (exact absurd rfl (hd _)) | simp [pE hi hz]
 · rename_i t' v
   obtain ⟨v', hx, L3⟩ : ∃ v', ρ x = .iface t' v' ∧ VR φ v v' := by generalize ρ x = X at hr; cases hr with | iface _ _ v' h => exact ⟨v', rfl, h⟩
   by_cases L4 : t' = t
   · subst L4
     rw [j7 rfl, cond_true] at e
     refine .same H (v' := .tuple #[v', .bool true]) ?_ (.fx _ _ (.cons _ _ _ _ L3 (.cons _ _ _ _ (.bool _) .nil))) e
     rw [uZ undef, hx]
     simp only [Instr.typeAssert, Sem.run_bind, run_underlying hu, Result.andThen_ok]
     cases d <;> first | (exact absurd rfl (hd _)) | simp
   · rw [eO L4, cond_false] at e
     refine .same H (v' := .tuple #[z, .bool false]) ?_ (.fx _ _ (.cons _ _ _ _ (oh eD) (.cons _ _ _ _ (.bool _) .nil))) e
     rw [uZ undef, hx]
     simp only [Instr.typeAssert, Sem.run_bind, run_underlying hu, Result.andThen_ok]
     cases d <;> first | (exact absurd rfl (hd _)) | simp [L4, pE hi hz]
 · cases e
theorem acY {x : Operand} {t : TypeId} (ho : o.op = .range t x) (hu : P.underlying t = some .string) (H : HR P w0 φ h w) (hv : LR φ vs ([x].map ρ)) (e : Uj vs h k = true) : PR P w0 φ h ((execOp ρ o).run P w) fun v h' => k v h' = true := by
 obtain ⟨p, al, e1⟩ := dX e; clear e; subst al; have e := e1; clear e1
 obtain ⟨p', hp, hr⟩ := hv.one
 simp at hp; subst hp
 obtain ⟨s, al, e1⟩ := kb e; clear e; subst al; have e := e1; clear e1
 obtain ⟨aS, h1, h2⟩ := sE e
 obtain ⟨g1, g2⟩ := H.newAt (f := h.nx) (o := .lN s 0) (o' := .stringIter s 0) (d := 0) (n := 0) (h' := ⟨h.nx + 1, aS⟩) (H.fresh _ (Nat.le_refl _)) h1.1 (fun g hg _ => h1.2 g hg) (fun g hg => H.fresh g (by simp only at hg; omega)) (fun g hg => by rw [h1.2 g (by simp only at hg; omega)]; exact H.top g (by simp only at hg; omega)) (by simp) _ (Nat.le_refl _) (.lN _ _ _)
 refine ⟨_, _, _, _, _, .inl ?_, h2, g2, by simp, PR.xK, g1⟩
 simp only [execOp, ho, hr.ja]
 simp [run_range_string w t s hu, World.iter]
theorem acZ {x : Operand} (ho : o.op = .next x true) (H : HR P w0 φ h w) (hv : LR φ vs ([x].map ρ)) (e : Uk vs h k = true) : PR P w0 φ h ((execOp ρ o).run P w) fun v h' => k v h' = true := by
 obtain ⟨p, al, e1⟩ := dX e; clear e; subst al; have e := e1; clear e1
 obtain ⟨p', hp, hr⟩ := hv.one
 simp at hp; subst hp
 obtain ⟨a, al, e1⟩ := kF e; clear e; subst al; have e := e1; clear e1
 obtain ⟨a', hx, hs, cw⟩ := hr.jx
 obtain ⟨h0, e1⟩ := bV e
 have h0 := Nat.eq_of_beq_eq_true h0
 obtain ⟨s, pos, g1, g2⟩ := ac0 e1
 obtain ⟨b, d, n, o', m1, m2, m3, m4⟩ := H.live hs g1
 obtain ⟨q1, q2, q3⟩ := cw b d n m1
 cases m3
 have E7 : a' = ⟨b, 0, none⟩ := by cases a'; simp_all
 have bG : b < w.heap.size := (Array.getElem?_eq_some_iff.1 m2).1
 unfold Ul at g2
 split at g2
 · rename_i c hc
   have eQ : pos < s.size := by
    have : pos < s.data.toList.length := (List.getElem?_eq_some_iff.1 hc).1
    simpa using this
   have fin : ∀ (c n : Nat) (aS : NT AO), Utf8.decode s pos = (c, n) → h.ob.iy a.block (some (.lN s (pos + n))) aS → k (.tuple #[.bool true, .int .i64 (Int.ofNat pos), .int .i32 (Int.ofNat c)]) ⟨h.nx, aS⟩ = true →
    PR P w0 φ h ((execOp ρ o).run P w) fun v h' => k v h' = true := fun c n aS L5 k1 k2 => by
    refine ⟨.tuple #[.bool true, .int .i64 (Int.ofNat pos), .int .i32 (Int.ofNat c)], { w with heap := w.heap.setIfInBounds b (.stringIter s (pos + n)) }, _, _, φ, .inl ?_, k2, Ext.refl _ _, Nat.le_refl _, .fx _ _ (.cons _ _ _ _ (.bool _) (.cons _ _ _ _ (.int _ _) (.cons _ _ _ _ (.int _ _) .nil))), ?_⟩
    · simp [execOp, ho, hx, E7, Instr.next, getObj, setObj, Sem.run, m2, eQ, L5, goInt]
    · exact H.iK m1 k1 rfl (.lN _ _ _) (m4 rfl) (by simp [bG]) (fun k hk => by simp [Ne.symm hk]) (by simp) rfl rfl rfl
   cases Aa : Nat.ble (Nat.succ c.toNat) 128 with
   | true =>
    rw [Aa] at g2
    have Aa : c.toNat < 128 := Nat.le_of_ble_eq_true Aa
    have g3 : fN (Nat.succ pos) (fun pos' => fM h a.block (some (.lN s pos')) fun h => fN c.toNat fun n => k (.tuple ⟨[.bool true, .int .i64 (.ofNat pos), .int .i32 (.ofNat n)]⟩) h) = true := g2
    rw [bT] at g3
    obtain ⟨aS, k1, k2⟩ := mF g3
    rw [bT] at k2
    have dY : s[pos]'eQ = c := by
     have h3 : s.data.toList[pos]'(by simpa using eQ) = c := (List.getElem?_eq_some_iff.1 hc).2
     have h4 : s.data[pos]'eQ = c := by simpa using h3
     exact h4
    have L5 : Utf8.decode s pos = (c.toNat, 1) := by
     rw [decode_ascii s pos eQ (by rw [dY]; exact Aa), dY]
    exact fin _ _ aS L5 k1 k2
   | false =>
    rw [Aa] at g2
    have g3 : fM h a.block (some (.lN s (pos + (Utf8.decode s pos).2))) (fun h => k (.tuple ⟨[.bool true, .int .i64 (.ofNat pos), .int .i32 (.ofNat (Utf8.decode s pos).1)]⟩) h) = true := g2
    obtain ⟨aS, k1, k2⟩ := mF g3
    exact fin _ _ aS rfl k1 k2
 · rename_i hc
   have eQ : ¬ pos < s.size := by
    have := List.getElem?_eq_none_iff.1 hc
    simp at this
    have h2 : s.size = s.data.size := rfl
    omega
   refine .same H (v' := .tuple #[.bool false]) ?_ (.fx _ _ (.cons _ _ _ _ (.bool _) .nil)) g2
   simp [execOp, ho, hx, E7, Instr.next, getObj, setObj, Sem.run, m2, eQ]
end
end Go.Ve
namespace Go.Ve
open Go.RowKit
section
variable {P : Program} {w0 w : World} {φ : aE} {h : AH} {ρ : Operand → Value} {o : Oper} {vs : List Value} {k : KV}
theorem Um (off : Nat) : ∀ (l : List Value) (n : Nat) (cells : Array Value), off + n + l.length ≤ cells.size →
 ((l.zipIdx n).foldl (fun (cs : Array Value) (p : Value × Nat) => cs.setIfInBounds (off + p.2) p.1) cells).toList = cells.toList.take (off + n) ++ l ++ cells.toList.drop (off + n + l.length)
 | [], n, cells, _ => by simp
 | v :: l, n, cells, h => by
  simp only [List.length_cons] at h
  simp only [List.zipIdx_cons, List.foldl_cons]
  rw [Um off l (n + 1) _ (by simp; omega)]
  simp only [Array.toList_setIfInBounds]
  have := list_seg_step cells.toList (off + n) v l (by simp; omega)
  simp only [List.length_cons]
  rw [← this]
  congr 2
theorem Un (off : Nat) (v : Value) (cells : Array Value) (h : off + v.cells.size ≤ cells.size) :
 (v.cells.zipIdx.foldl (fun cs (c, j) => cs.setIfInBounds (off + j) c) cells) = (cells.toList.take off ++ v.cells.toList ++ cells.toList.drop (off + v.cells.toList.length)).toArray := by
 apply Array.ext'
 rw [← Array.foldl_toList, Array.toList_zipIdx]
 have := Um off v.cells.toList 0 cells (by simpa using h)
 simpa using this
theorem E8 {place : Nat → Option (Nat × Nat)} : ∀ {ps : List (Nat × Nat)} {parts : List (Nat × Value)} {l l' vs : List Value} {kk : List Value → Bool}, iL l ps vs kk = true → LR φ l l' → LR φ vs (parts.map (·.2)) → parts.map (fun p => place p.1) = ps.map some →
 ∃ r r', kk r = true ∧ LR φ r r' ∧ Instr.fill place l'.toArray parts = some r'.toArray
 | [], parts, l, l', vs, kk, h, hl, hv, hp => by
  have L6 : parts = [] := by cases parts with | nil => rfl | cons _ _ => simp at hp
  subst L6
  cases vs with
  | cons _ _ => cases h
  | nil => exact ⟨l, l', h, hl, rfl⟩
 | (off, sz) :: ps, parts, l, l', vs, kk, h, hl, hv, hp => by
  cases parts with
  | nil => simp at hp
  | cons part parts =>
   obtain ⟨i, v'⟩ := part
   simp only [List.map_cons, List.cons.injEq] at hp
   cases vs with
   | nil => cases h
   | cons v vs =>
    simp only [List.map_cons] at hv
    cases hv with | cons _ _ _ _ qN mG =>
    have h' : (bif hY (cellsOf v) sz then np l off (cellsOf v) fun l' => iL l' ps vs kk else false) = true := h
    cases hle : hY (cellsOf v) sz with
    | false => rw [hle] at h'; cases h'
    | true =>
     rw [hle, cond_true] at h'
     have ef := E9 _ hle
     rw [xL] at ef h'
     obtain ⟨h1, h2⟩ := Uo l h'
     have hc := VR.cells qN
     have jy := hc.length
     have ke := hl.length
     have ac1 : LR φ (l.take off ++ v.cells.toList ++ l.drop (off + v.cells.toList.length)) (l'.take off ++ v'.cells.toList ++ l'.drop (off + v'.cells.toList.length)) := by
      rw [← jy]
      exact LR.append (hl.drop _) (LR.append hc (hl.take off))
     obtain ⟨r, r', q1, q2, q3⟩ := E8 h1 ac1 mG hp.2
     refine ⟨r, r', q1, q2, ?_⟩
     have xM : v'.cells.size = sz := by rw [← ef, jy]; simp
     have qH : ¬ (off + v'.cells.size > l'.toArray.size) := by simp; rw [xM]; omega
     simp only [Instr.fill, hp.1]
     rw [if_neg (by simp [xM]; simp at qH; rw [xM] at qH; omega)]
     rw [Un off v' l'.toArray (by simp at qH; simp; omega)]
     exact q3
def xN : List Value → List Value
 | [] => []
 | v :: vs => v.cells.toList ++ xN vs
theorem Up : ∀ {ss : List Nat} {vs : List Value} {kk : List Value → Bool}, u9 ss vs kk = true → kk (xN vs) = true ∧ vs.map (fun v => v.cells.size) = ss
 | [], vs, kk, h => by
  obtain ⟨rfl, h⟩ := sF (show a0 vs (kk []) = true from h)
  exact ⟨h, rfl⟩
 | n :: ss, vs, kk, h => by
  cases vs with
  | nil => cases h
  | cons v vs =>
   obtain ⟨h1, h2⟩ := bV (show iff (hY (cellsOf v) n) (u9 ss vs fun l => gO (cellsOf v) l kk) = true from h)
   obtain ⟨h3, h4⟩ := Up h2
   have := qI _ _ h3
   rw [xL] at this
   have hs := E9 _ h1
   rw [xL] at hs
   exact ⟨this, by simp [h4]; simpa using hs⟩
theorem Uq : ∀ {vs gQ : List Value}, LR φ vs gQ → LR φ (xN vs) (xN gQ)
 | _, _, .nil => .nil
 | _, _, .cons _ _ _ _ h hl => LR.append (Uq hl) (VR.cells h)
theorem LR.uV : ∀ {vs gQ : List Value}, LR φ vs gQ → vs.map (fun v => v.cells.size) = gQ.map (fun v => v.cells.size)
 | _, _, .nil => rfl
 | _, _, .cons _ _ _ _ h hl => by
  have := (VR.cells h).length
  simp only [List.map_cons, LR.uV hl]
  congr 1
theorem Ur {place : Nat → Option (Nat × Nat)} : ∀ {ps : List (Nat × Nat)} {parts : List (Nat × Value)} {n m : Nat} {done rest : List Value}, sG n ps m = true → parts.map (fun p => place p.1) = ps.map some → parts.map (fun p => p.2.cells.size) = ps.map (·.2) →
 done.length = n → n + rest.length = m → Instr.fill place (done ++ rest).toArray parts = some (done ++ xN (parts.map (·.2))).toArray
 | [], parts, n, m, done, rest, hc, hp, hs, hd, hr => by
  have L6 : parts = [] := by cases parts with | nil => rfl | cons _ _ => simp at hp
  subst L6
  simp only [sG, beq_iff_eq] at hc
  have : rest = [] := List.eq_nil_of_length_eq_zero (by omega)
  subst this
  rfl
 | (off, sz) :: ps, parts, n, m, done, rest, hc, hp, hs, hd, hr => by
  cases parts with
  | nil => simp at hp
  | cons part parts =>
   obtain ⟨i, v'⟩ := part
   simp only [List.map_cons, List.cons.injEq] at hp hs
   simp only [sG, Bool.and_eq_true, beq_iff_eq] at hc
   obtain ⟨rfl, hc⟩ := hc
   have hm : n + sz ≤ m := by
    have : ∀ (ps : List (Nat × Nat)) (n m : Nat), sG n ps m = true → n ≤ m := by
     intro ps
     induction ps with
     | nil => intro n m h; simp only [sG, beq_iff_eq] at h; omega
     | cons p ps ih => intro n m h; obtain ⟨a, b⟩ := p; simp only [sG, Bool.and_eq_true, beq_iff_eq] at h; have := ih _ _ h.2; omega
    exact this _ _ _ hc
   have xM : v'.cells.size = sz := hs.1
   simp only [Instr.fill, hp.1]
   rw [if_neg (by simp [xM]; omega)]
   rw [Un n v' _ (by simp; omega)]
   have e1 : List.take n (done ++ rest).toArray.toList ++ v'.cells.toList ++ List.drop (n + v'.cells.toList.length) (done ++ rest).toArray.toList = (done ++ v'.cells.toList) ++ rest.drop sz := by
    have nq : v'.cells.toList.length = sz := by simpa using xM
    simp only [nq]
    rw [List.take_append_of_le_length (by omega), List.take_of_length_le (by omega)]
    congr 1
    rw [List.drop_append]
    simp [hd]
   rw [e1]
   have := Ur (place := place) (done := done ++ v'.cells.toList) (rest := rest.drop sz) hc hp.2 hs.2 (by simp; omega) (by simp; omega)
   rw [this]
   simp [xN, List.append_assoc]
theorem run_places : ∀ (fs : List Field), (∀ f ∈ fs, (dV P f.type).isSome = true) → (fs.mapM fun f => (do pure (f.offset, ← sizeOf f.type) : Sem (Nat × Nat))).run P w = .ok (fs.map fun f => (f.offset, (dV P f.type).getD 0)) w
 | [], _ => by simp
 | f :: fs, h => by
  obtain ⟨s, hs⟩ := Option.isSome_iff_exists.1 (h f (by simp))
  obtain ⟨i, hi, rfl⟩ := kG hs
  have ih := run_places fs (fun g hg => h g (by simp [hg]))
  rw [List.mapM_cons]
  simp only [Sem.run_bind, iJ hi, Result.andThen_ok, Sem.run_pure, ih, List.map_cons, hs, Option.getD_some]
theorem mapM_some {α β : Type} {f : α → Option β} : ∀ {l : List α} {r : List β}, l.mapM f = some r → l.map f = r.map some
 | [], r, h => by simp at h; subst h; rfl
 | a :: l, r, h => by
  simp only [List.mapM_cons, Option.bind_eq_bind, Option.bind_eq_some_iff] at h
  obtain ⟨b, hb, r', hr, e⟩ := h
  simp at e
  subst e
  simp [hb, mapM_some hr]
theorem Us {t : TypeId} {parts : Array (Nat × Operand)} {z : Value} {ps : List (Nat × Nat)} {place : Nat → Option (Nat × Nat)} (hz : zeroOf P t = some z)
 (bO : ∀ {cells : Array Value}, Instr.fill place z.cells (parts.map fun (i, x) => (i, ρ x)).toList = some cells → (execOp ρ o).run P w = .ok (.value (.agg cells)) w)
 (eQ : parts.toList.map (fun p => place p.1) = ps.map some) (H : HR P w0 φ h w) (hv : LR φ vs ((parts.toList.map (·.2)).map ρ)) (e : (vd z.cells.toList ps).ev vs h k = true) : PR P w0 φ h ((execOp ρ o).run P w) fun v h' => k v h' = true := by
 obtain ⟨i, hi, lR, eD⟩ := nj hz
 have mH : (parts.map fun (i, x) => (i, ρ x)).toList.map (fun p => place p.1) = ps.map some := by
  rw [← eQ]; simp [Function.comp_def]
 have nq : LR φ vs ((parts.map fun (i, x) => (i, ρ x)).toList.map (·.2)) := by
  simpa [Function.comp_def] using hv
 have pF : LR φ z.cells.toList z.cells.toList := VR.cells (oh eD)
 unfold vd at e
 split at e
 · rename_i hc
   obtain ⟨e1, e2⟩ := Up (show u9 (ps.map (·.2)) vs (fun l => k (.agg ⟨l⟩) h) = true from e)
   have hf := Ur (place := place) (done := []) (rest := z.cells.toList) hc mH (by rw [← e2, LR.uV nq]; simp) rfl (by simp)
   exact .same H (bO (by simpa using hf)) (.agg _ _ (by simpa using Uq nq)) e1
 · obtain ⟨r, r', q1, q2, q3⟩ := E8 (place := place) (show iL z.cells.toList ps vs (fun l => k (.agg ⟨l⟩) h) = true from e) pF nq mH
   exact .same H (bO (by simpa using q3)) (.agg _ _ (by simpa using q2)) q1
theorem ac2 {t : TypeId} {parts : Array (Nat × Operand)} {fs : Array Field} {z : Value} {ps : List (Nat × Nat)} (ho : o.op = .build t parts) (hu : P.underlying t = some (.struct fs)) (hz : zeroOf P t = some z) (fj : ∀ f ∈ fs.toList, (dV P f.type).isSome = true)
    (eQ : parts.toList.mapM (fun p => (fs[p.1]?).bind fun f => (dV P f.type).map fun s => (f.offset, s)) = some ps) (H : HR P w0 φ h w) (hv : LR φ vs ((parts.toList.map (·.2)).map ρ)) (e : (vd z.cells.toList ps).ev vs h k = true) : PR P w0 φ h ((execOp ρ o).run P w) fun v h' => k v h' = true := by
  obtain ⟨i, hi, lR, eD⟩ := nj hz
  refine Us (place := fun j => (fs.map fun f => (f.offset, (dV P f.type).getD 0))[j]?) hz (fun {cells} hf => ?_) ?_ H hv e
  · have mH : (fs.mapM fun f => (do pure (f.offset, ← sizeOf f.type) : Sem (Nat × Nat))).run P w = .ok (fs.map fun f => (f.offset, (dV P f.type).getD 0)) w := by
      rw [Array.mapM_eq_mapM_toList]
      simp only [Sem.run_map, run_places fs.toList fj, Result.andThen_ok]
      congr 1
      apply Array.ext'
      simp
    simp only [execOp, ho, Instr.build, Sem.run_bind, pE hi lR, Result.andThen_ok, run_underlying hu]
    rw [mH]
    simp only [Result.andThen_ok]
    rw [hf]
    simp
  · rw [← mapM_some eQ]
    apply List.map_congr_left
    intro p hp
    simp only [Array.getElem?_map]
    cases hfp : fs[p.1]? with
    | none => simp
    | some f =>
      have hm : f ∈ fs.toList := by simpa using Array.mem_of_getElem? hfp
      obtain ⟨s, hs⟩ := Option.isSome_iff_exists.1 (fj f hm)
      simp [hs]
theorem ac3 {t e' : TypeId} {n s : Nat} {parts : Array (Nat × Operand)} {z : Value} (ho : o.op = .build t parts) (hu : P.underlying t = some (.array n e')) (hz : zeroOf P t = some z) (hs : dV P e' = some s)
 (H : HR P w0 φ h w) (hv : LR φ vs ((parts.toList.map (·.2)).map ρ)) (e : (vd z.cells.toList (parts.toList.map fun p => (p.1 * s, s))).ev vs h k = true) : PR P w0 φ h ((execOp ρ o).run P w) fun v h' => k v h' = true := by
 obtain ⟨i, hi, lR, eD⟩ := nj hz
 obtain ⟨i2, eP, rfl⟩ := kG hs
 refine Us (place := fun j => some (j * i2.size, i2.size)) hz (fun {cells} hf => ?_) ?_ H hv e
 · simp only [execOp, ho, Instr.build, Sem.run_bind, pE hi lR, Result.andThen_ok, run_underlying hu, iJ eP]
   rw [hf]
   simp
 · simp [Function.comp_def]
theorem ac4 {t e' : TypeId} {n s : Nat} {parts : Array (Nat × Operand)} {z : Value} (ho : o.op = .buildSlice t n parts) (hu : P.underlying t = some (.slice e')) (hz : zeroOf P e' = some z) (hs : dV P e' = some s) (hle : n * s ≤ 65536) (lg : z.cells.size = s) (h0 : 0 < s)
    (H : HR P w0 φ h w) (hv : LR φ vs ((parts.toList.map (·.2)).map ρ)) (e : Ut e' n (iY n z.cells.toList) (parts.toList.map fun p => (p.1 * s, s)) vs h k = true) : PR P w0 φ h ((execOp ρ o).run P w) fun v h' => k v h' = true := by
  obtain ⟨i, hi, lR, eD⟩ := nj hz
  obtain ⟨i2, eP, qH⟩ := kG hs
  rw [hi] at eP; cases eP
  subst qH
  have mH : (parts.map fun (i, x) => (i, ρ x)).toList.map (fun p => some (p.1 * i.size, i.size)) = (parts.toList.map fun p => (p.1 * i.size, i.size)).map some := by simp [Function.comp_def]
  have nq : LR φ vs ((parts.map fun (i, x) => (i, ρ x)).toList.map (·.2)) := by simpa [Function.comp_def] using hv
  obtain ⟨r, r', q1, q2, q3⟩ := E8 (place := fun j => some (j * i.size, i.size)) e (LR.EY (VR.cells (oh (φ := φ) eD)) n) nq mH
  obtain ⟨og, c, aS, k1, k2, k3⟩ := qK q1
  obtain ⟨r1, r2⟩ := PR.newRow H q2 k1 k2
  have hm : ((Array.range (n * i.size)).map fun j => z.cells[j % z.cells.size]!) = (iY n z.cells.toList).toArray := by
    apply Array.ext'
    have := LV z.cells (by omega) n
    rw [← lg]
    simpa [madeCells] using this
  have sH : Instr.fill (fun j => some (j * i.size, i.size)) (iY n z.cells.toList).toArray (List.map (fun x => (x.fst, ρ x.snd)) parts.toList) = some r'.toArray := by simpa using q3
  have bO : (execOp ρ o).run P w = .ok (.value (.slice (some ⟨w.heap.size, 0, none⟩) n n)) (w.alloc (.cells r'.toArray e')) := by
    have Ab : ¬ (16777216 < n * i.size) := by omega
    simp only [execOp, ho, Instr.buildSlice, Sem.run_bind, run_underlying hu, Result.andThen_ok, iJ hi]
    by_cases lS : n * i.size = 0
    · have Ac : ((Array.range (n * i.size)).map fun j => (#[] : Array Value)[j % (#[] : Array Value).size]!) = (iY n z.cells.toList).toArray := by
        rw [← hm, lS]; simp [Array.range_zero']
      simp [Ab, lS]
      simp [lS] at Ac
      rw [Ac]
      rw [sH]
      simp [newRow, World.alloc_eq]
    · simp [Ab, lS, pE hi lR]
      rw [hm, sH]
      simp [newRow, World.alloc_eq]
  refine ⟨_, _, _, _, _, .inl bO, k3, r2, by simp, .sl _ _ _ _ _ (by simp [aE.put]) (.inl ⟨by unfold aU; have : n ≤ n * i.size := Nat.le_mul_of_pos_right n h0; omega, rfl, Nat.le_refl _, fun _ b d m hl => ?_⟩), r1⟩
  simp only [aE.gP] at hl
  cases hl
  exact ⟨rfl, rfl, rfl⟩
end
end Go.Ve
