/- Part 7: VEval, part 9: append, copy, make, maps, strings, composite values. No condition. And what follows it. -/
import Derived.Test.YteeibihhdldjfaaGreatDoorVeF
import Derived.MapKept
set_option linter.unusedVariables false
set_option linter.unusedSimpArgs false
namespace Go.Ve
open Go.RowKit
section
variable {P : Program} {w0 w : World} {φ : ak} {h : AH} {ρ : Operand → Value} {o : Oper} {vs : List Value} {k : KV}
theorem adX {x : Value} {x' : Value} {sz : Nat} {kk : Nat → List Value → Bool} (H : HR P w0 φ h w) (hr : VR φ x x') (e : kp h sz x kk = true) :
 ∃ n xs lG, kk n xs = true ∧ xs.length = n * sz ∧ LR φ xs lG ∧ (Builtin.lenOf x').run P w = .ok n w ∧ ∀ w', w'.heap = w.heap → (Builtin.firstCells sz n x').run P w' = .ok lG.toArray w' := by
 unfold kp at e
 rcases nK e with ⟨l0, c0, ag, e1⟩ | ⟨a, len, cap, ag, e1⟩ <;> clear e <;> subst ag
 · obtain ⟨rfl, rfl, hx⟩ := hr.oN
   subst hx
   exact ⟨0, [], [], e1, by simp, .nil, by simp [Builtin.lenOf], fun w' _ => by simp [Builtin.firstCells]⟩
 · obtain ⟨a', cr, hx, hs, hc⟩ := hr.mB
   subst hx
   by_cases hn : len = 0
   · subst hn
     rw [jG rfl, cond_true] at e1
     exact ⟨0, [], [], e1, by simp, .nil, by simp [Builtin.lenOf], fun w' _ => by simp [Builtin.firstCells, loadCells, loadCellsFrom]⟩
   · rw [ep hn, cond_false] at e1
     have cb : AtR φ a a' := by
      rcases hc with ⟨h1, h2, qe, h3⟩ | ⟨sz, h1, h2, h3, h4⟩
      · exact h3 (by omega)
      · exact (h4 (by omega)).1
     obtain ⟨lo, hi, ty, ll, c, l, g1, g2, g3, g4, g5, g6⟩ := ry e1
     have z7 : a.off + l.length ≤ hi := by rw [g4]; exact g3
     obtain ⟨l', q1, q2⟩ := H.cells (P := P) hs cb g1 g2 z7 g5
     refine ⟨len, l, l', g6, g4, q1, by simp [Builtin.lenOf], fun w' hw => ?_⟩
     have := q2 w' hw
     rw [g4] at this
     exact this
theorem ET {lB : Array TypeId} {t u e eu ty : TypeId} {i : TypeInfo} (ht : P.underlying t = some (.slice e)) (hu : P.underlying u = some (.slice eu) ∨ P.underlying u = some .string) (hi : P.info? e = some i) (h0 : lB[0]? = some t) (h1 : lB[1]? = some u)
 {a : Option Addr} {sLen sCap n : Nat} {x : Value} {news : List Value} {w2 : World} (hlen : (Builtin.lenOf x).run P w = .ok n w) (hf : (Builtin.firstCells i.size n x).run P w = .ok news.toArray w)
 (gQ : (match a with | some b => (storeCells (b.add (sLen * i.size)) news).run P w | none => .ok () w) = .ok () w2) (mj : sLen + n ≤ sCap) :
 (Builtin.append_ lB ty #[.slice a sLen sCap, x]).run P w = .ok (.slice a (sLen + n) sCap) w2 := by
 have h0' : lB[0]? = some t := h0
 cases a with
 | none =>
  simp only [Result.ok.injEq] at gQ
  obtain ⟨_, rfl⟩ := gQ
  rcases hu with hu | hu <;> simp [Builtin.append_, h0, h1, run_underlying ht, run_underlying hu, sizeOf, typeInfo, hi, hlen, mj, hf]
 | some b =>
  rcases hu with hu | hu <;> simp [Builtin.append_, h0, h1, run_underlying ht, run_underlying hu, sizeOf, typeInfo, hi, hlen, mj, hf, gQ]
theorem EU {lB : Array TypeId} {t u e eu ty : TypeId} {i : TypeInfo} {z : Value} (ht : P.underlying t = some (.slice e)) (hu : P.underlying u = some (.slice eu) ∨ P.underlying u = some .string) (hi : P.info? e = some i) (hz : i.zero = some z) (h0 : lB[0]? = some t) (h1 : lB[1]? = some u)
 {a : Option Addr} {sLen sCap n : Nat} {x : Value} {olds news : List Value} (hlen : (Builtin.lenOf x).run P w = .ok n w) (hf : ∀ w', w'.heap = w.heap → (Builtin.firstCells i.size n x).run P w' = .ok news.toArray w')
 (ES : ∀ w', w'.heap = w.heap → (Builtin.firstCells i.size sLen (.slice a sLen sCap)).run P w' = .ok olds.toArray w') (hg : sCap < sLen + n) (hb : (sLen + n) * i.bytes ≤ 140737488355328) (ajs : sLen + n ≤ 1048576) :
 ∃ nc, sLen + n ≤ nc ∧ (Builtin.append_ lB ty #[.slice a sLen sCap, x]).run P w = .ok (.slice (some ⟨w.heap.size, 0, none⟩) (sLen + n) nc) (w.drew.alloc (.cells ((olds ++ news).toArray ++ Builtin.zeroCells z.cells (nc - (sLen + n))) e)) := by
 refine ⟨grownCap w (sLen + n) sCap e, grownCap_ge w _ _ _, ?_⟩
 have hn : ¬ (sLen + n ≤ sCap) := by omega
 have DY : ¬ (9223372036854775807 < ((sLen : Int) + (n : Int))) := by omega
 have wK := growslice_fits (bytes := i.bytes) hg hb
 have Ux : ¬ (281474976710656 < Builtin.nextslicecap (sLen + n) sCap * i.bytes) := by omega
 have tY := hf w.drew rfl
 have tZ := ES w.drew rfl
 rcases hu with hu | hu
 · simp [Builtin.append_, h0, h1, run_underlying ht, run_underlying hu, sizeOf, typeInfo, zeroValue, hi, hz, hlen, hn, DY, Ux, Question.forced, tY, tZ, newRow, grownCap]
   rw [← Array.append_assoc]
   simp
 · simp [Builtin.append_, h0, h1, run_underlying ht, run_underlying hu, sizeOf, typeInfo, zeroValue, hi, hz, hlen, hn, DY, Ux, Question.forced, tY, tZ, newRow, grownCap]
   rw [← Array.append_assoc]
   simp
theorem AtR.add {a a' : Addr} (h : AtR φ a a') (n : Nat) : AtR φ ⟨a.block, a.off + n, none⟩ (a'.add n) := by
 intro b d m hl
 obtain ⟨e1, e2, e3⟩ := h b d m hl
 rw [kU a' e3]
 exact ⟨e1, by show a'.off + n + d = a.off + n; omega, rfl⟩
theorem PR.adY (H : HR P w0 φ h w) {ty : TypeId} {l l' : List Value} (hl : LR φ l l') {arr : Array Value} (adZ : ∀ (j : Nat) (v : Value), l'[j]? = some v → arr[j]? = some v) {c : NT Value} {o : Nat} {aP : NT AO} (hc : ∀ (j : Nat) (v : Value), l[j]? = some v → c.get (o + j) = some v)
 (bL : h.ob.gP h.nx (some (.cells o (o + l.length) ty true c)) aP) :
 HR P w0 (φ.put h.nx (.live w.heap.size o arr.size)) ⟨h.nx + 1, aP⟩ (w.alloc (.cells arr ty)) ∧ Ext h.nx φ (φ.put h.nx (.live w.heap.size o arr.size)) := by
 refine H.newAt (H.fresh _ (Nat.le_refl _)) bL.1 (fun g hg _ => bL.2 g hg) (fun g hg => H.fresh g (by simp only at hg; omega)) (fun g hg => by rw [bL.2 g (by simp only at hg; omega)]; exact H.top g (by simp only at hg; omega)) (by simp) _ (Nat.le_refl _) ?_
 refine .cells _ _ _ _ _ _ _ _ _ (fun _ => rfl) (Nat.le_refl _) rfl fun p Iw Ix => ?_
 obtain ⟨j, rfl⟩ : ∃ j, p = o + j := ⟨p - o, by omega⟩
 have hj : j < l.length := by omega
 obtain ⟨u, hu, hr⟩ := LR.get hl j _ (List.getElem?_eq_getElem hj)
 exact ⟨l[j], u, hc j _ (List.getElem?_eq_getElem hj), by rw [show o + j - o = j by omega]; exact adZ j u hu, hr⟩
theorem HR.drew (H : HR P w0 φ h w) : HR P w0 φ h w.drew := H.world rfl rfl rfl rfl
theorem PR.EV {r : Result Next} (H : HR P w0 φ h w) {ty : TypeId} {l l' : List Value} {z : Value} {sz n nc o : Nat} (dW : 0 < sz) (hz : z.cells.size = sz) (hl : LR φ l l') (hlen : l.length = n * sz) (IP : n ≤ nc) {c : NT Value} {aP : NT AO}
 (hc : ∀ (j : Nat) (v : Value), l[j]? = some v → c.get (o + j) = some v) (bL : h.ob.gP h.nx (some (.cells o (o + l.length) ty true c)) aP) {k : KV} (e : k (.slice (some ⟨h.nx, o, none⟩) n (aT + sz)) ⟨h.nx + 1, aP⟩ = true)
 (hr : r = .ok (.value (.slice (some ⟨w.heap.size, 0, none⟩) n nc)) (w.drew.alloc (.cells (l'.toArray ++ Builtin.zeroCells z.cells (nc - n)) ty))) : PR P w0 φ h r fun v h' => k v h' = true := by
 obtain ⟨g1, g2⟩ := PR.adY (P := P) H.drew (arr := l'.toArray ++ Builtin.zeroCells z.cells (nc - n)) hl (fun j v hj => by
  have : j < l'.length := (List.getElem?_eq_some_iff.1 hj).1
  rw [Array.getElem?_append]
  simp [this]
  simpa using (List.getElem?_eq_some_iff.1 hj).2) hc bL
 refine ⟨_, _, _, _, _, .inl hr, e, g2, by simp, .sl _ _ _ _ _ (by simp [ak.put]) (.inr ⟨sz, rfl, dW, IP, fun _ => ⟨fun b d m hl => ?_, fun b d m hl => ?_⟩⟩), g1⟩
 · simp only [ak.gj] at hl
   cases hl
   exact ⟨rfl, by show 0 + o = o; omega, rfl⟩
 · simp only [ak.gj] at hl
   cases hl
   have h2 := hl.length
   simp only [Array.size_append, List.size_toArray, size_zeroCells, hz]
   rw [← h2, hlen, ← Nat.add_mul]
   show 0 + nc * sz ≤ _
   have : n + (nc - n) = nc := by omega
   rw [this]; omega
theorem HR.ad0 (H : HR P w0 φ h w) {a a' : Addr} {lo hi : Nat} {ty : TypeId} {rw : Bool} {c : NT Value} (hs : φ a.block ≠ none) (ha : AtR φ a a') (ho : h.ob.get a.block = some (.cells lo hi ty rw c)) (m : Nat) (h1 : lo ≤ a.off) (h2 : a.off + m ≤ hi) :
 ∃ l l', l.length = m ∧ (∀ j v, l[j]? = some v → c.get (a.off + j) = some v) ∧ LR φ l l' ∧ ∀ w', w'.heap = w.heap → (loadCells a' m).run P w' = .ok l'.toArray w' := by
 obtain ⟨b, d, arr, _, _, _, _, _, _, _, hc, _⟩ := H.at hs ha ho
 let l := (List.range m).map fun j => (c.get (a.off + j)).getD undef
 have jK : l.length = m := by simp [l]
 have mZ : ∀ j v, l[j]? = some v → c.get (a.off + j) = some v := by
  intro j v hj
  have hjm : j < m := by have := (List.getElem?_eq_some_iff.1 hj).1; omega
  obtain ⟨u, u', q1, _, _⟩ := hc (a.off + j) (by omega) (by omega)
  simp [l, hjm, q1] at hj
  rw [q1, hj]
 obtain ⟨l', q1, q2⟩ := H.cells (P := P) hs ha ho h1 (by omega) mZ
 exact ⟨l, l', jK, mZ, q1, fun w' hw => by have := q2 w' hw; rwa [jK] at this⟩
theorem HR.ad1 (H : HR P w0 φ h w) {f B d n : Nat} {o : AO} {o' : Obj} {h' : AH} {w' : World} (hf : φ f = none) (hB : ∀ g b d n, φ g = some (.live b d n) → b ≠ B) (bL : h.ob.gP f (some o) h'.ob) (ib : h.nx ≤ h'.nx) (hnf : f < h'.nx) (N : Nat) (hN : N ≤ f)
 (ho : OR P φ d n o o') (hb : w0.heap.size ≤ B) (h1 : w'.heap[B]? = some o') (h2 : ∀ k, k ≠ B → w'.heap[k]? = w.heap[k]?) (h3 : w'.heap.size = w.heap.size) (h4 : w'.os = w.os) (h5 : w'.tape = w.tape) (h6 : w'.output = w.output) :
 HR P w0 (φ.put f (.live B d n)) h' w' ∧ Ext N φ (φ.put f (.live B d n)) := by
 have hE : Ext N φ (φ.put f (.live B d n)) := ak.D5 φ _ hf hN
 have key : ∀ g b e m, (φ.put f (.live B d n)) g = some (.live b e m) → (g = f ∧ b = B ∧ e = d ∧ m = n) ∨ (g ≠ f ∧ φ g = some (.live b e m) ∧ b ≠ B) := by
  intro g b e m hg
  by_cases cS : g = f
  · subst cS; rw [ak.gj] at hg; cases hg; exact .inl ⟨rfl, rfl, rfl, rfl⟩
  · rw [ak.gq _ _ cS] at hg
    exact .inr ⟨cS, hg, hB g b e m hg⟩
 refine ⟨⟨?_, ?_, fun g hg => by rw [bL.2 g (by omega)]; exact H.top g (by omega), ?_, ?_, ?_⟩, hE⟩
 · intro g g' b e e' m m' mX hg nS
   rcases key g b e m hg with ⟨a1, a2, _⟩ | ⟨a1, a2, a3⟩ <;> rcases key g' b e' m' nS with ⟨b1, b2, _⟩ | ⟨b1, b2, b3⟩
   · rw [a1, b1]
   · exact absurd a2 b3
   · exact absurd b2 a3
   · exact H.inj g g' b e e' m m' mX a2 b2
 · intro g hg
   rw [ak.gq _ _ (by omega)]
   exact H.fresh g (by omega)
 · intro g hg
   by_cases cS : g = f
   · subst cS; rw [ak.gj] at hg; cases hg
   · rw [ak.gq _ _ cS] at hg
     rw [bL.2 g cS]
     exact H.dead g hg
 · intro g b e m hg
   rcases key g b e m hg with ⟨rfl, rfl, rfl, rfl⟩ | ⟨a1, a2, a3⟩
   · exact ⟨o, o', bL.1, h1, ho.ext hE, fun _ => hb⟩
   · obtain ⟨o1, o2, q1, q2, q3, q4⟩ := H.obj g b e m a2
     exact ⟨o1, o2, by rw [bL.2 g a1]; exact q1, by rw [h2 b a3]; exact q2, q3.ext hE, q4⟩
 · exact ⟨h4.trans H.below.os, h5.trans H.below.tape, h6.trans H.below.output, by rw [h3]; exact H.below.size, fun k hk => by rw [h2 k (by omega)]; exact H.below.block k hk⟩
theorem ad2 (arr : Array Value) (l' : List Value) (off : Nat) (wK : off + l'.length ≤ arr.size) :
 (List.take off arr.toList ++ l' ++ List.drop (off + l'.length) arr.toList).toArray.size = arr.size ∧
 ∀ p : Nat, (List.take off arr.toList ++ l' ++ List.drop (off + l'.length) arr.toList).toArray[p]? = if p < off then arr[p]? else if p < off + l'.length then l'[p - off]? else arr[p]? := by
 refine ⟨by simp; omega, fun p => ?_⟩
 simp only [List.getElem?_toArray, List.getElem?_append, List.length_take, List.length_append, List.getElem?_take, List.getElem?_drop, Array.getElem?_toList, Array.length_toList]
 have hm : min off arr.size = off := by omega
 rw [hm]
 by_cases q1 : p < off
 · simp [q1, show p < off + l'.length by omega]
 · by_cases q2 : p < off + l'.length
   · simp [q1, q2]
   · simp only [q1, q2, if_false]
     congr 1; omega
theorem LR.ad3 {l l' : List Value} (hl : LR φ l l') (nL : ∀ v ∈ l, dR v = true) : ∀ v ∈ l', v.oneCell' = true := by
 intro v' js
 have hlen := hl.length
 obtain ⟨j, hj⟩ := List.getElem?_of_mem js
 have zN : j < l.length := by rw [hlen]; exact (List.getElem?_eq_some_iff.1 hj).1
 obtain ⟨u, hu, hr⟩ := LR.get hl j _ (List.getElem?_eq_getElem zN)
 rw [hj] at hu; cases hu
 exact hr.dR (nL _ (List.getElem_mem zN))
theorem Tn {c : Call} {t u e' eu : TypeId} {i : TypeInfo} {z : Value} {p p' q' : Value} {n : Nat} {xs lG : List Value} (bF : ∀ {v' : Value} {w' : World}, (Builtin.append_ c.argTypes o.type #[p', q']).run P w = .ok v' w' → (execOp ρ o).run P w = .ok (.value v') w')
 (h0 : c.argTypes[0]? = some t) (h1 : c.argTypes[1]? = some u) (ht : P.underlying t = some (.slice e')) (hu : P.underlying u = some (.slice eu) ∨ P.underlying u = some .string)
 (hi : P.info? e' = some i) (hz : i.zero = some z) (tO : i.bytes ≤ 65536) (kN : z.cells.size = i.size) (dW : 0 < i.size) (H : HR P w0 φ h w) (hr : VR φ p p') (mi : xs.length = n * i.size) (pq : LR φ xs lG)
 (hlen : (Builtin.lenOf q').run P w = .ok n w) (pt : ∀ w', w'.heap = w.heap → (Builtin.firstCells i.size n q').run P w' = .ok lG.toArray w')
 (e2 : jx p (wy h e' i.size n xs k) (wz h e' i.size n xs k) = true) : PR P w0 φ h ((execOp ρ o).run P w) fun v h' => k v h' = true := by
 have ajt := pq.length
 have hbound : ∀ m, m ≤ 1048576 → m * i.bytes ≤ 140737488355328 := fun m hm => Nat.le_trans (Nat.mul_le_mul hm tO) (by decide)
 rcases nK e2 with ⟨l0, c0, ag, e3⟩ | ⟨a, len, cap, ag, e3⟩ <;> subst ag
 · obtain ⟨rfl, rfl, hx⟩ := hr.oN
   unfold wy at e3
   by_cases hn : n = 0
   · subst hn
     rw [jG rfl, cond_true] at e3
     have ju : lG = [] := List.eq_nil_of_length_eq_zero (by omega)
     subst ju
     exact .same H (bF (by rw [hx]; exact ET ht hu hi h0 h1 (a := none) hlen (pt w rfl) rfl (by omega))) .kM e3
   · rw [ep hn, cond_false] at e3
     obtain ⟨wb, e4⟩ := bJ e3
     have wb := Nat.le_of_ble_eq_true wb
     obtain ⟨nL, cc, aP, g1, g2, g3⟩ := pY e4
     rw [bH] at g3
     obtain ⟨nc, q1, q2⟩ := EU (P := P) (ty := o.type) ht hu hi hz h0 h1 (a := none) (sLen := 0) (sCap := 0) (olds := []) hlen pt (fun w' _ => by simp [Builtin.firstCells]) (by omega) (by rw [Nat.zero_add]; exact hbound n wb) (by omega)
     rw [← hx] at q2
     simp only [Nat.zero_add, List.nil_append] at q1 q2
     exact PR.EV (o := 0) H dW kN pq mi q1 (fun j v hj => by rw [Nat.zero_add]; exact g1 j v hj) (by rw [Nat.zero_add]; exact g2) g3 (bF q2)
 · obtain ⟨a', cr, hx, hs, gh⟩ := hr.mB
   have Ew : len ≤ cr := by
    rcases gh with ⟨_, h2, h3, _⟩ | ⟨_, _, _, h3, _⟩ <;> omega
   have cb : 0 < cr → AtR φ a a' := by
    intro hp
    rcases gh with ⟨_, h2, h3, h4⟩ | ⟨_, _, _, h3, h4⟩
    · exact h4 (by omega)
    · exact (h4 hp).1
   unfold wz at e3
   by_cases hn : n = 0
   · subst hn
     rw [jG rfl, cond_true] at e3
     have ju : lG = [] := List.eq_nil_of_length_eq_zero (by omega)
     subst ju
     refine .same H (bF (by rw [hx]; exact ET ht hu hi h0 h1 (a := some a') hlen (pt w rfl) rfl (by omega))) ?_ e3
     exact .sl _ _ _ _ _ hs gh
   · rw [ep hn, cond_false, bH] at e3
     obtain ⟨Ae, e4⟩ := bJ e3
     have Ae : len + n ≤ 1048576 := Nat.le_of_ble_eq_true Ae
     have hold : ∀ {lo cI : Nat} {ty : TypeId} {ll : Bool} {cc : NT Value}, h.ob.get a.block = some (.cells lo cI ty ll cc) → lo ≤ a.off → a.off + len * i.size ≤ cI →
      ∃ l l', l.length = len * i.size ∧ (∀ j v, l[j]? = some v → cc.get (a.off + j) = some v) ∧ LR φ l l' ∧ ∀ w', w'.heap = w.heap → (Builtin.firstCells i.size len (.slice (some a') len cr)).run P w' = .ok l'.toArray w' := by
      intro lo cI ty ll cc g1 g2 g3
      by_cases gS : len = 0
      · subst gS
        exact ⟨[], [], by simp, fun j v hj => by simp at hj, .nil, fun w' _ => by simp [Builtin.firstCells, loadCells, loadCellsFrom]⟩
      · exact H.ad0 (P := P) hs (cb (by omega)) g1 _ g2 g3
     cases hb : Nat.ble aT cap with
     | true =>
      rw [hb, cond_true] at e4
      have hb := Nat.le_of_ble_eq_true hb
      unfold Dr at e4
      obtain ⟨EW, e5⟩ := bJ e4
      have EW : cap = aT + i.size := Nat.eq_of_beq_eq_true EW
      obtain ⟨lo, cI, ty, ll, cc, g1, e6⟩ := qz e5
      obtain ⟨g2, e7⟩ := bJ e6
      simp only [Bool.and_eq_true] at g2
      obtain ⟨⟨⟨⟨g2, g3⟩, g4⟩, g5⟩, g6⟩ := g2
      subst g2
      obtain rfl := Nat.eq_of_beq_eq_true g3
      have g4 := Nat.le_of_ble_eq_true g4
      have g5 : a.off + len * i.size ≤ cI := Nat.le_of_ble_eq_true g5
      have nL := D9 _ g6
      obtain ⟨Uy, k1, e8⟩ := l5 e7
      rw [bH] at e8
      obtain ⟨c2, e9, k2, k3⟩ := D6 _ e8
      rw [bH] at e9
      obtain ⟨I5, k4, EX⟩ := rz e9
      obtain ⟨ol, Md, m1, m2, m3, m4⟩ := hold g1 g4 g5
      have H1 := H.kill (P := P) (w := w) (h' := ⟨h.nx, Uy⟩) hs k1 rfl
      have E1 : Ext h.nx φ (φ.put a.block .dead) := ak.Dk φ _ _ hs
      have ad4 : ∀ j v, (ol ++ xs)[j]? = some v → c2.get (a.off + j) = some v := by
       intro j v hj
       rw [List.getElem?_append] at hj
       split at hj
       · rename_i bz
         rw [k3 _ (.inl (by show a.off + j < a.off + len * i.size; omega))]
         exact m2 j v hj
       · have := k2 _ v hj
         rw [← this]; congr 1
         show a.off + j = a.off + len * i.size + (j - ol.length)
         omega
      have Af : (ol ++ xs).length = (len + n) * i.size := by rw [List.length_append, m1, mi, Nat.add_mul]
      have bL : (⟨h.nx, Uy⟩ : AH).ob.gP h.nx (some (.cells a.off (a.off + (ol ++ xs).length) ty true c2)) I5 := by
       rw [Af]; exact k4
      have IZ : LR (φ.put a.block .dead) (ol ++ xs) (Md ++ lG) := LR.append (LR.ext E1 pq) (LR.ext E1 m3)
      by_cases mj : len + n ≤ cr
      · -- in place
        obtain ⟨sz, q1, q2, q3, q4⟩ : ∃ sz, cap = aT + sz ∧ 0 < sz ∧ len ≤ cr ∧ (0 < cr → AtR φ a a' ∧ ∀ b d n, φ a.block = some (.live b d n) → a'.off + cr * sz ≤ n) := by
         rcases gh with ⟨h2, _⟩ | h2
         · omega
         · exact h2
        have ad5 : sz = i.size := by omega
        subst ad5
        obtain ⟨zG, Me⟩ := q4 (by omega)
        obtain ⟨B, d, arr, fr, v1, v2, v3, v4, v5, v6, v7, v8, v9⟩ := H.at hs zG g1
        obtain rfl := v9 rfl
        have Me := Me _ _ _ v1
        have hmul : (len + n) * i.size ≤ cr * i.size := Nat.mul_le_mul mj (Nat.le_refl _)
        have aju : (len + n) * i.size = len * i.size + n * i.size := Nat.add_mul _ _ _
        have wK : a'.off + len * i.size + lG.length ≤ arr.size := by omega
        have gQ := run_storeCells_at P B (a'.off + len * i.size) ty lG 0 arr w v5 (by simpa using wK) (LR.ad3 pq nL)
        simp only [Nat.add_zero] at gQ
        obtain ⟨x1, x2⟩ := ad2 arr lG (a'.off + len * i.size) wK
        generalize hX : (List.take (a'.off + len * i.size) arr.toList ++ lG ++ List.drop (a'.off + len * i.size + lG.length) arr.toList).toArray = X at gQ x1 x2
        have C0 : a'.add (len * i.size) = ⟨B, a'.off + len * i.size, none⟩ := by rw [kU a' v4, v2]
        have Ag := ET (P := P) (ty := o.type) ht hu hi h0 h1 (a := some a') (sLen := len) (sCap := cr) hlen (pt w rfl) (by simp only []; rw [C0]; exact gQ) mj
        rw [← hx] at Ag
        have hor : OR P (φ.put a.block .dead) d arr.size (.cells a.off (a.off + (ol ++ xs).length) ty true c2) (.cells X ty (0, 0)) := by
         refine .cells _ _ _ _ _ _ _ _ _ (fun _ => rfl) (by omega) x1.symm fun p p1 p2 => ?_
         rw [Af] at p2
         rw [x2]
         by_cases hp : p < a.off + len * i.size
         · obtain ⟨v, v', y1, y2, y3⟩ := v7 p (by omega) (by omega)
           exact ⟨v, v', by rw [k3 p (.inl hp)]; exact y1, by rw [if_pos (by omega)]; exact y2, VR.ext E1 y3⟩
         · obtain ⟨j, rfl⟩ : ∃ j, p = a.off + len * i.size + j := ⟨p - (a.off + len * i.size), by omega⟩
           have hj : j < xs.length := by omega
           obtain ⟨y, y1, y2⟩ := LR.get pq j _ (List.getElem?_eq_getElem hj)
           refine ⟨xs[j], y, k2 j _ (List.getElem?_eq_getElem hj), ?_, VR.ext E1 y2⟩
           rw [if_neg (by omega), if_pos (by omega), show a.off + len * i.size + j - d - (a'.off + len * i.size) = j by omega]
           exact y1
        obtain ⟨r1, r2⟩ := H1.ad1 (P := P) (f := h.nx) (B := B) (h' := ⟨h.nx + 1, I5⟩) (w' := w.setRow B X) (by rw [ak.gq _ _ (fun e => hs (by rw [← e]; exact H.fresh _ (Nat.le_refl _)))]; exact H.fresh _ (Nat.le_refl _))
         (fun g b' d' n' hg hbB => by
          by_cases Mf : g = a.block
          · subst Mf; rw [ak.gj] at hg; cases hg
          · rw [ak.gq _ _ Mf] at hg
            subst hbB
            exact Mf (H.inj g a.block b' d' d n' arr.size (v8 rfl) hg v1)) bL (by simp) (by simp) h.nx (Nat.le_refl _) hor (v8 rfl) (setRow_heap w B arr X ty (0, 0) v5) (fun k hk => by
          unfold World.setRow
          simp only [Array.getElem?_modify]
          rw [if_neg (by omega)]) (by simp) rfl rfl rfl
        refine ⟨_, _, _, _, _, .inl (bF Ag), EX, E1.trans r2 (Nat.le_refl _), by simp, .sl _ _ _ _ _ (by simp [ak.put]) (.inr ⟨i.size, EW, dW, mj, fun _ => ⟨fun b d' m hl => ?_, fun b d' m hl => ?_⟩⟩), r1⟩
        · simp only [ak.gj] at hl
          cases hl
          exact ⟨v2, v3, v4⟩
        · simp only [ak.gj] at hl
          cases hl
          exact Me
      · -- ajv
        obtain ⟨nc, q1, q2⟩ := EU (P := P) (ty := o.type) ht hu hi hz h0 h1 (a := some a') (sLen := len) (sCap := cr) hlen pt m4 (by omega) (hbound _ Ae) (by omega)
        rw [← hx] at q2
        have := PR.EV (P := P) (w0 := w0) (o := a.off) H1 dW kN IZ Af q1 ad4 bL (by rw [EW] at EX; exact EX) (bF q2)
        obtain ⟨v', w', v, h', φ', r1, r2, r3, r4, r5, r6⟩ := this
        exact ⟨v', w', v, h', φ', r1, r2, E1.trans r3 (Nat.le_refl _), r4, r5, r6⟩
     | false =>
      rw [hb, cond_false] at e4
      have jb : cap < aT := by rw [rv] at hb; simpa using hb
      obtain ⟨zf, Mg⟩ : cr = cap ∧ (0 < cap → AtR φ a a') := by
       rcases gh with ⟨_, h2, _, h3⟩ | ⟨sz, h2, _⟩
       · exact ⟨h2, h3⟩
       · omega
      cases kQ : Nat.ble (Nat.add len n) cap with
      | true =>
       rw [kQ, cond_true, bH] at e4
       have mj : len + n ≤ cap := Nat.le_of_ble_eq_true kQ
       obtain ⟨lo, cI, ty, cc, cc', aP, g1, g2, g3, g4, g5, g6, g7, g8⟩ := Iy e4
       have zG := (Mg (by omega)).add (len * i.size)
       obtain ⟨w', q1, q2, _⟩ := H.write (P := P) (a := ⟨a.block, a.off + len * i.size, none⟩) hs zG g1 g2 g3 pq g4 g5 g6 g7
       have Ag := ET (P := P) (ty := o.type) ht hu hi h0 h1 (a := some a') (sLen := len) (sCap := cr) hlen (pt w rfl) q1 (by omega)
       rw [← hx] at Ag
       exact ⟨_, _, _, _, _, .inl (bF Ag), g8, Ext.refl _ _, Nat.le_refl _, .sl _ _ _ _ _ hs (.inl ⟨jb, zf, mj, Mg⟩), q2⟩
      | false =>
       rw [kQ, cond_false] at e4
       have ajw : ¬ (len + n ≤ cap) := by rw [rv] at kQ; simpa using kQ
       by_cases gS : len = 0
       · subst gS
         rw [jG rfl, cond_true] at e4
         obtain ⟨nL, cc, aP, g1, g2, g3⟩ := pY e4
         rw [bH] at g3
         obtain ⟨nc, q1, q2⟩ := EU (P := P) (ty := o.type) ht hu hi hz h0 h1 (a := some a') (sLen := 0) (sCap := cr) (olds := []) hlen pt (fun w' _ => by simp [Builtin.firstCells, loadCells, loadCellsFrom]) (by omega) (hbound _ Ae) (by omega)
         rw [← hx] at q2
         simp only [Nat.zero_add, List.nil_append] at q1 q2
         refine PR.EV (o := 0) H dW kN pq mi q1 (fun j v hj => by rw [Nat.zero_add]; exact g1 j v hj) (by rw [Nat.zero_add]; exact g2) ?_ (bF q2)
         rw [show Nat.add 0 n = n from Nat.zero_add n] at g3
         exact g3
       · rw [ep gS, cond_false] at e4
         obtain ⟨lo, cI, ty, ll, cc, ol, g1, g2, g3, g4, g5, g6⟩ := ry e4
         have e5 := pW _ _ g6
         obtain ⟨nL, c2, aP, k1, k2, k3⟩ := pY e5
         rw [bH] at k3
         obtain ⟨Md, m3, m4⟩ := H.cells (P := P) hs (Mg (by omega)) g1 g2 (by rw [g4]; exact g3) g5
         rw [g4] at m4
         obtain ⟨nc, q1, q2⟩ := EU (P := P) (ty := o.type) ht hu hi hz h0 h1 (a := some a') (sLen := len) (sCap := cr) (olds := Md) hlen pt (fun w' hw => by simp only [Builtin.firstCells]; exact m4 w' hw) (by omega) (hbound _ Ae) (by omega)
         rw [← hx] at q2
         have Af : (ol ++ xs).length = (len + n) * i.size := by rw [List.length_append, g4, mi, Nat.add_mul]; rfl
         exact PR.EV (o := 0) H dW kN (LR.append pq m3) Af q1 (fun j v hj => by rw [Nat.zero_add]; exact k1 j v hj) (by rw [Nat.zero_add]; exact k2) k3 (bF q2)
theorem aaU {c : Call} {s x : Operand} {t u e' eu : TypeId} {i : TypeInfo} {z : Value} (ho : o.op = .call c) (hc : c.callee = .builtin .append) (ha : c.args = #[s, x]) (h0 : c.argTypes[0]? = some t) (h1 : c.argTypes[1]? = some u) (ht : P.underlying t = some (.slice e')) (hu : P.underlying u = some (.slice eu))
 (hi : P.info? e' = some i) (hz : i.zero = some z) (tO : i.bytes ≤ 65536) (kN : z.cells.size = i.size) (dW : 0 < i.size) (H : HR P w0 φ h w) (hv : LR φ vs ([s, x].map ρ)) (e : RL e' i.size z.cells.toList vs h k = true) : PR P w0 φ h ((execOp ρ o).run P w) fun v h' => k v h' = true := by
 obtain ⟨p, q, ag, e1⟩ := fF e; clear e; subst ag; have e := e1; clear e1
 obtain ⟨p', q', hp, hr, hq⟩ := hv.two
 simp at hp; obtain ⟨e1, e2⟩ := hp; subst e1 e2
 have bF : ∀ {v' : Value} {w' : World}, (Builtin.append_ c.argTypes o.type #[ρ s, ρ x]).run P w = .ok v' w' → (execOp ρ o).run P w = .ok (.value v') w' := by
  intro v' w' hh
  rw [jI ho hc]
  simp [builtin, ha, hh]
 obtain ⟨n, xs, lG, e1, mi, pq, hlen, pt⟩ := adX (P := P) H hq e
 obtain ⟨_, e2⟩ := bJ e1
 exact Tn (p := p) (p' := ρ s) (q' := ρ x) bF h0 h1 ht (.inl hu) hi hz tO kN dW H hr mi pq hlen pt e2
end
end Go.Ve
namespace Go.Ve
open Go.RowKit
open Go.MapKept (run_findKey sameBits_self IsKey)
section
variable {P : Program} {w0 w : World} {φ : ak} {h : AH} {ρ : Operand → Value} {o : Oper} {vs : List Value} {k : KV}
theorem ZM {c : Call} {x y : Operand} (ho : o.op = .call c) (hc : c.callee = .builtin .max) (ha : c.args = #[x, y]) (H : HR P w0 φ h w) (hv : LR φ vs ([x, y].map ρ)) (e : Iu vs h k = true) : PR P w0 φ h ((execOp ρ o).run P w) fun v h' => k v h' = true := by
 obtain ⟨p, q, ag, e1⟩ := fF e; clear e; subst ag; have e := e1; clear e1
 obtain ⟨p', q', hp, hr, hq⟩ := hv.two
 simp at hp; obtain ⟨e1, e2⟩ := hp; subst e1 e2
 obtain ⟨kx, a, ag, e1⟩ := lk e; clear e; subst ag; have e := e1; clear e1
 obtain ⟨ky, b, ag, e1⟩ := lk e; clear e; subst ag; have e := e1; clear e1
 obtain ⟨hk, e1⟩ := bJ e; clear e
 obtain rfl := lZ hk
 rw [vQ] at e1
 have hx := hr.fo
 have hy := hq.fo
 have bF : (execOp ρ o).run P w = .ok (.value (.int kx (if b > a then b else a))) w := by
  rw [jI ho hc]
  simp [builtin, ha, hx, hy, run_max_int2]
 refine .same H bF (.int _ _) ?_
 by_cases l3 : a < b
 · rw [if_pos l3]; simpa [l3] using e1
 · rw [if_neg l3]; simpa [l3] using e1
theorem ZN {c : Call} {x y : Operand} (ho : o.op = .call c) (hc : c.callee = .builtin .min) (ha : c.args = #[x, y]) (H : HR P w0 φ h w) (hv : LR φ vs ([x, y].map ρ)) (e : Iv vs h k = true) : PR P w0 φ h ((execOp ρ o).run P w) fun v h' => k v h' = true := by
 obtain ⟨p, q, ag, e1⟩ := fF e; clear e; subst ag; have e := e1; clear e1
 obtain ⟨p', q', hp, hr, hq⟩ := hv.two
 simp at hp; obtain ⟨e1, e2⟩ := hp; subst e1 e2
 obtain ⟨kx, a, ag, e1⟩ := lk e; clear e; subst ag; have e := e1; clear e1
 obtain ⟨ky, b, ag, e1⟩ := lk e; clear e; subst ag; have e := e1; clear e1
 obtain ⟨hk, e1⟩ := bJ e; clear e
 obtain rfl := lZ hk
 rw [vQ] at e1
 have hx := hr.fo
 have hy := hq.fo
 have bF : (execOp ρ o).run P w = .ok (.value (.int kx (if b < a then b else a))) w := by
  rw [jI ho hc]
  simp [builtin, ha, hx, hy, run_min_int2]
 refine .same H bF (.int _ _) ?_
 by_cases l3 : b < a
 · rw [if_pos l3]; simpa [l3] using e1
 · rw [if_neg l3]; simpa [l3] using e1
theorem ZO {c : Call} {d s : Operand} {t e' : TypeId} {i : TypeInfo} (ho : o.op = .call c) (hc : c.callee = .builtin .copy) (ha : c.args = #[d, s]) (h0 : c.argTypes[0]? = some t) (ht : P.underlying t = some (.slice e'))
 (hi : P.info? e' = some i) (H : HR P w0 φ h w) (hv : LR φ vs ([d, s].map ρ)) (e : Qf i.size vs h k = true) : PR P w0 φ h ((execOp ρ o).run P w) fun v h' => k v h' = true := by
 obtain ⟨p, q, ag, e1⟩ := fF e; clear e; subst ag; have e := e1; clear e1
 obtain ⟨p', q', hp, hr, hq⟩ := hv.two
 simp at hp; obtain ⟨e1, e2⟩ := hp; subst e1 e2
 have bF : ∀ {v' : Value} {w' : World}, (Builtin.copy_ c.argTypes o.type #[ρ d, ρ s]).run P w = .ok v' w' → (execOp ρ o).run P w = .ok (.value v') w' := by
  intro v' w' hh
  rw [jI ho hc]
  simp [builtin, ha, hh]
 have cb : ∀ {a a' : Addr} {len cap cr : Nat}, pT φ a a' len cap cr → 0 < len → AtR φ a a' := by
  intro a a' len cap cr gh hp
  rcases gh with ⟨_, h2, _, h4⟩ | ⟨_, _, _, h3, h4⟩
  · exact h4 (by omega)
  · exact (h4 (by omega)).1
 rcases nK e with ⟨l0, c0, ag, e3⟩ | ⟨a, len, cap, ag, e3⟩ <;> clear e <;> subst ag
 · obtain ⟨rfl, rfl, hx⟩ := hr.oN
   rcases nK e3 with ⟨l1, c1, ag, e4⟩ | ⟨b, mA, ZP, ag, e4⟩ <;> subst ag
   · obtain ⟨rfl, rfl, hy⟩ := hq.oN
     exact .same H (bF (by rw [hx, hy]; simp [Builtin.copy_, h0, run_underlying ht, Builtin.lenOf, hY hi, Builtin.firstCells, goInt])) (.int _ _) e4
   · obtain ⟨b', ZQ, hy, _, _⟩ := hq.mB
     exact .same H (bF (by rw [hx, hy]; simp [Builtin.copy_, h0, run_underlying ht, Builtin.lenOf, hY hi, Builtin.firstCells, goInt, loadCells, loadCellsFrom])) (.int _ _) e4
 · obtain ⟨a', cr, hx, hs, gh⟩ := hr.mB
   rcases nK e3 with ⟨l1, c1, ag, e4⟩ | ⟨b, mA, ZP, ag, e4⟩ <;> subst ag
   · obtain ⟨rfl, rfl, hy⟩ := hq.oN
     exact .same H (bF (by rw [hx, hy]; simp [Builtin.copy_, h0, run_underlying ht, Builtin.lenOf, hY hi, Builtin.firstCells, goInt, storeCells])) (.int _ _) e4
   · obtain ⟨b', ZQ, hy, pV, ZR⟩ := hq.mB
     rw [bH] at e4
     have ZS : (bif Nat.ble mA len then mA else len) = Nat.min mA len := by
      rw [rv]
      by_cases hle : mA ≤ len
      · simp [hle, Nat.min_eq_left hle, Nat.min_def]
      · simp [hle, Nat.min_def]
     rw [ZS] at e4
     by_cases hn : Nat.min mA len = 0
     · rw [hn, jG rfl, cond_true] at e4
       exact .same H (bF (by rw [hx, hy]; simp [Builtin.copy_, h0, run_underlying ht, Builtin.lenOf, hY hi, Builtin.firstCells, goInt, hn, loadCells, loadCellsFrom, storeCells])) (.int _ _) e4
     · rw [ep hn, cond_false] at e4
       have Iw : 0 < mA := by have := Nat.min_le_left mA len; simp only [Nat.min_def] at hn this; split at hn <;> omega
       have Ix : 0 < len := by simp only [Nat.min_def] at hn; split at hn <;> omega
       obtain ⟨lo, cI, ty, ll, cc, l, g1, g2, g3, g4, g5, g6⟩ := ry e4
       obtain ⟨l', q1, q2⟩ := H.cells (P := P) pV (cb ZR Iw) g1 g2 (by rw [g4]; exact g3) g5
       obtain ⟨lo2, er, ZT, c2, c2', aP, k1, k2, k3, k4, k5, k6, k7, k8⟩ := Iy g6
       obtain ⟨w', r1, r2, _⟩ := H.write (P := P) hs (cb gh Ix) k1 k2 k3 q1 k4 k5 k6 k7
       have Qg := q2 w rfl
       rw [g4] at Qg
       have ZU : (loadCells b' (Nat.min mA len * i.size)).run P w = .ok l'.toArray w := Qg
       refine ⟨_, w', _, _, φ, .inl (bF ?_), k8, Ext.refl _ _, Nat.le_refl _, .int _ _, r2⟩
       rw [hx, hy]
       simp only [Builtin.copy_, h0, Builtin.lenOf]
       simp [run_underlying ht, hY hi, Builtin.firstCells, goInt, ZU, r1]
theorem LR.CV {φ : ak} {l l' : List Value} (h : LR φ l l') : ∀ n, LR φ (iB n l) (iB n l')
 | 0 => .nil
 | n + 1 => LR.append (LR.CV h n) h
theorem Qh : ∀ (n : Nat) {zero : List Value} {k : List Value → Bool}, vR n zero k = true → k (iB n zero) = true
 | 0, zero, k, h => h
 | n + 1, zero, k, h => pW _ _ (Qh n (show vR n zero (fun l => gi zero l k) = true from h))
theorem Qi (z : List Value) : ∀ n, (iB n z).length = n * z.length
 | 0 => by simp [iB]
 | n + 1 => by simp [iB, Qi z n, Nat.add_mul]; omega
theorem Qj (z : List Value) (hz : 0 < z.length) : ∀ (n j : Nat), j < n * z.length → (iB n z)[j]? = z[j % z.length]?
 | 0, j, hj => by omega
 | n + 1, j, hj => by
  simp only [iB, List.getElem?_append]
  by_cases yr : j < z.length
  · rw [if_pos yr, Nat.mod_eq_of_lt yr]
  · rw [if_neg yr, Qj z hz n _ (by rw [Nat.add_mul] at hj; omega), Nat.mod_eq_sub_mod (by omega : j ≥ z.length)]
theorem Iz (z : Array Value) (hz : 0 < z.size) (n : Nat) : (madeCells z (n * z.size)).toList = iB n z.toList := by
 apply List.ext_getElem?
 intro j
 by_cases hj : j < n * z.size
 · rw [Qj z.toList (by simpa using hz) n j (by simpa using hj)]
   have hm : j % z.size < z.size := Nat.mod_lt _ hz
   simp [madeCells, hj, hm]
 · rw [List.getElem?_eq_none (by simp [madeCells]; omega), List.getElem?_eq_none (by rw [Qi]; simpa using by omega)]
theorem ZV {t e' : TypeId} {x y : Operand} {i : TypeInfo} {z : Value} (ho : o.op = .makeSlice t x y) (ht : P.underlying t = some (.slice e')) (hi : P.info? e' = some i) (hz : i.zero = some z) (ej : vS z = true) (tO : i.bytes ≤ 65536) (kN : z.cells.size = i.size) (dW : 0 < i.size)
 (H : HR P w0 φ h w) (hv : LR φ vs ([x, y].map ρ)) (e : Qk e' i.size z.cells.toList vs h k = true) : PR P w0 φ h ((execOp ρ o).run P w) fun v h' => k v h' = true := by
 obtain ⟨p, q, ag, e1⟩ := fF e; clear e; subst ag; have e := e1; clear e1
 obtain ⟨p', q', hp, hr, hq⟩ := hv.two
 simp at hp; obtain ⟨e1, e2⟩ := hp; subst e1 e2
 obtain ⟨kl, l, ag, e1⟩ := pX e; clear e; subst ag; have e := e1; clear e1
 obtain ⟨kc, c, ag, e1⟩ := pX e; clear e; subst ag; have e := e1; clear e1
 obtain ⟨g, e1⟩ := bJ e
 simp only [Bool.and_eq_true] at g
 obtain ⟨⟨g1, g2⟩, g3⟩ := g
 have g1 := Nat.le_of_ble_eq_true g1
 have g2 := Nat.le_of_ble_eq_true g2
 have e2 := Qh _ e1
 obtain ⟨nL, cc, aP, k1, k2, k3⟩ := pY e2
 have hb : (i.bytes : Int) * (Int.ofNat c) ≤ 281474976710656 := by
  have : i.bytes * c ≤ 65536 * 65536 := Nat.mul_le_mul tO g2
  simp only [Int.ofNat_eq_natCast]
  rw [← Int.natCast_mul]; omega
 have bF := run_make (P := P) w t e' i z ht hi hz kl kc (Int.ofNat l) (Int.ofNat c) (by simp) (by simp only [Int.ofNat_eq_natCast]; omega) hb (by simp only [Int.ofNat_eq_natCast]; omega)
 have hm : madeCells z.cells (c * i.size) = (iB c z.cells.toList).toArray := by
  apply Array.ext'
  rw [← kN, Iz z.cells (by omega) c]
 have hc : (Int.ofNat c).toNat = c := rfl
 have hl : (Int.ofNat l).toNat = l := rfl
 rw [hc, hl, hm] at bF
 obtain ⟨r1, r2⟩ := PR.newRow H (LR.CV (VR.cells (nM (φ := φ) ej)) c) k1 k2
 refine ⟨.slice (some ⟨w.heap.size, 0, none⟩) l c, _, _, _, _, .inl (by simp only [execOp, ho, hr.fo, hq.fo]; simp only [Sem.run_bind, bF, Result.andThen_ok, Sem.run_pure]), k3, r2, by simp, .sl _ _ _ _ _ (by simp [ak.put]) (.inl ⟨by unfold aT; omega, rfl, g1, fun _ b d n hl => ?_⟩), r1⟩
 simp only [ak.gj] at hl
 cases hl
 exact ⟨rfl, rfl, rfl⟩
theorem vT {d : TypeDesc} {kc : Nat} {a b : Value} {r : Bool} (hk : iC d = some kc) (he : j5 kc a b = some r) : Instr.sameNow d a b = some r := by
 unfold j5 at he
 split at he <;> first | (cases he; done) | skip
 · rename_i k1 x k2 y
   cases dc : eP k1 k2 with
   | false => rw [dc] at he; cases he
   | true =>
    rw [dc] at he
    simp only [cond_true, Option.some.injEq] at he
    obtain rfl := lZ dc
    unfold iC at hk
    split at hk <;> first | (cases hk; done) | skip
    subst he
    simp [Instr.sameNow, pZ]
 · rename_i x y
   simp only [Option.some.injEq] at he
   unfold iC at hk
   split at hk <;> first | (cases hk; done) | skip
   subst he
   cases x <;> cases y <;> rfl
 · rename_i x y
   simp only [Option.some.injEq] at he
   unfold iC at hk
   split at hk <;> first | (cases hk; done) | skip
   subst he
   simp only [Instr.sameNow, eqStr, beq_toListBytes]
theorem Ql {kc : Nat} {d : TypeDesc} (hk : iC d = some kc) : ∀ {es : List (Value × Value × Nat)} {bV : List MapEntry} {x x' : Value} {kk : Option Value → Bool} (i : Nat), ER φ es bV → VR φ x x' → l4 kc es x kk = true →
 (kk none = true ∧ Instr.findNow d x' bV i = some none) ∨ ∃ v v' j, kk (some v) = true ∧ VR φ v v' ∧ Instr.findNow d x' bV i = some (some (j, v'))
 | _, _, x, x', kk, i, .nil, hx, h => .inl ⟨h, rfl⟩
 | _, _, x, x', kk, i, .cons a v b e l l' ha hv hb hl, hx, h => by
  unfold l4 at h
  split at h
  · rename_i he
    obtain ⟨rfl, h2⟩ := yt hx ha he
    exact .inr ⟨v, e.val, i, h, hv, by simp [Instr.findNow, h2, vT hk he]⟩
  · rename_i he
    obtain ⟨h1, h2⟩ := yt hx ha he
    rcases Ql hk (i + 1) hl hx h with ⟨q1, q2⟩ | ⟨v1, v2, j, q1, q2, q3⟩
    · exact .inl ⟨q1, by subst h1; simp [Instr.findNow, h2, vT hk he, q2]⟩
    · exact .inr ⟨v1, v2, j, q1, q2, by subst h1; simp [Instr.findNow, h2, vT hk he, q3]⟩
  · cases h
theorem Qm {kc : Nat} {d : TypeDesc} {t : TypeId} {x : Value} {b : Bool} (hu : P.underlying t = some d) (hk : iC d = some kc) : (Instr.checkKey b 10000 t x).run P w = .ok () w := by
 rw [show (10000 : Nat) = 9999 + 1 from rfl]
 unfold Instr.checkKey
 simp only [Sem.run_bind, run_underlying hu, Result.andThen_ok]
 unfold iC at hk
 split at hk <;> first | (cases hk; done) | skip
 all_goals (cases x <;> rfl)
theorem ZW {t kt e' : TypeId} {m x : Operand} {kc : Nat} {z : Value} {ok : Bool} (ho : o.op = .lookup t m x ok) (ht : P.underlying t = some (.map kt e')) (hk : (P.underlying kt).bind iC = some kc) (hz : zeroOf P e' = some z)
 (H : HR P w0 φ h w) (hv : LR φ vs ([m, x].map ρ)) (e : IA kc z ok vs h k = true) : PR P w0 φ h ((execOp ρ o).run P w) fun v h' => k v h' = true := by
 obtain ⟨i, hi, hz, ej⟩ := mC hz
 obtain ⟨d, hd, yu⟩ : ∃ d, P.underlying kt = some d ∧ iC d = some kc := by
  cases hu : P.underlying kt with
  | none => simp [hu] at hk
  | some d => exact ⟨d, rfl, by simpa [hu] using hk⟩
 obtain ⟨p, q, ag, e1⟩ := fF e; clear e; subst ag; have e := e1; clear e1
 obtain ⟨p', q', hp, hr, hq⟩ := hv.two
 simp at hp; obtain ⟨e1, e2⟩ := hp; subst e1 e2
 obtain ⟨_, e1⟩ := bJ e
 have fin : ∀ {ov : Option Value} {es : Array MapEntry}, yw z ok h k ov = true →
  ((ρ m = .map none ∧ es = #[]) ∨ ∃ r cl, ρ m = .map (some r) ∧ w.heap[r]? = some (.map es cl)) →
  ((ov = none ∧ Instr.findNow d (ρ x) es.toList 0 = some none) ∨ ∃ v v' j, ov = some v ∧ VR φ v v' ∧ Instr.findNow d (ρ x) es.toList 0 = some (some (j, v'))) → PR P w0 φ h ((execOp ρ o).run P w) fun v h' => k v h' = true := by
  intro ov es q1 q2 q3
  have qa : ∀ b, (Instr.checkKey b 10000 kt (ρ x)).run P w = .ok () w := fun b => Qm hd yu
  rcases q3 with ⟨rfl, q3⟩ | ⟨v, v', j, rfl, q4, q3⟩
  · have hf := run_findKey (P := P) (w := w) hd q3
    have bF : (execOp ρ o).run P w = .ok (.value (if ok = true then .tuple #[z, .bool false] else z)) w := by
     rcases q2 with ⟨q2, rfl⟩ | ⟨r, cl, q2, q5⟩
     · simp only [execOp, ho, Instr.lookup, Sem.run_bind, run_underlying ht, Result.andThen_ok, q2]
       simp [qa, hf, oO hi hz]
     · simp only [execOp, ho, Instr.lookup, Sem.run_bind, run_underlying ht, Result.andThen_ok, q2]
       simp [getObj, Sem.run, q5, qa, hf, oO hi hz]
    cases ok with
    | true => exact .same H bF (.eW _ _ (.cons _ _ _ _ (nM ej) (.cons _ _ _ _ (.bool _) .nil))) q1
    | false => exact .same H bF (nM ej) q1
  · have hf := run_findKey (P := P) (w := w) hd q3
    have bF : (execOp ρ o).run P w = .ok (.value (if ok = true then .tuple #[v', .bool true] else v')) w := by
     rcases q2 with ⟨q2, rfl⟩ | ⟨r, cl, q2, q5⟩
     · simp only [execOp, ho, Instr.lookup, Sem.run_bind, run_underlying ht, Result.andThen_ok, q2]
       simp [qa, hf]
     · simp only [execOp, ho, Instr.lookup, Sem.run_bind, run_underlying ht, Result.andThen_ok, q2]
       simp [getObj, Sem.run, q5, qa, hf]
    cases ok with
    | true => exact .same H bF (.eW _ _ (.cons _ _ _ _ q4 (.cons _ _ _ _ (.bool _) .nil))) q1
    | false => exact .same H bF q4 q1
 rcases CW e1 with ⟨ag, e2⟩ | ⟨r, ag, e2⟩ <;> subst ag
 · exact fin (es := #[]) e2 (.inl ⟨hr.IB, rfl⟩) (.inl ⟨rfl, rfl⟩)
 · obtain ⟨r', hx, hs, nN⟩ := hr.CX
   obtain ⟨es, cl, g1, g2⟩ := tP e2
   obtain ⟨dd, n, bV, _, m2, m3, _⟩ := H.IC hs nN g1
   rcases Ql yu 0 m3 hq g2 with ⟨q1, q2⟩ | ⟨v1, v2, j, q1, q2, q3⟩
   · exact fin q1 (.inr ⟨r', cl, hx, m2⟩) (.inl ⟨rfl, q2⟩)
   · exact fin q1 (.inr ⟨r', cl, hx, m2⟩) (.inr ⟨v1, v2, j, rfl, q2, q3⟩)
end
end Go.Ve
namespace Go.Ve
open Go.RowKit
open Go.MapKept (run_findKey bytes_beq)
section
variable {P : Program} {w0 w : World} {φ : ak} {h : AH} {ρ : Operand → Value} {o : Oper} {vs : List Value} {k : KV}
theorem ZX {kc : Nat} {a b : Value} (he : j5 kc a b = some true) : a = b := by
 unfold j5 at he
 split at he <;> first | (cases he; done) | skip
 · rename_i k1 x k2 y
   cases dc : eP k1 k2 with
   | false => rw [dc] at he; cases he
   | true =>
    rw [dc] at he
    simp only [cond_true, Option.some.injEq, pZ, beq_iff_eq] at he
    rw [lZ dc, he]
 · rename_i x y
   cases x <;> cases y <;> first | rfl | (simp at he)
 · rename_i x y
   simp only [Option.some.injEq, eqStr] at he
   rw [← beq_toListBytes] at he
   rw [(bytes_beq x y).1 he]
theorem ZY {kc : Nat} {x x' : Value} (hx : VR φ x x') (ho : vU kc x = true) : Instr.sameBits 10000 x' x' = true := by
 rw [show (10000 : Nat) = 9999 + 1 from rfl]
 unfold vU at ho
 split at ho <;> first | (cases ho; done) | skip
 · rw [hx.fo]; simp [Instr.sameBits]
 · rw [hx.oM]; simp [Instr.sameBits]
 · rw [hx.iD]; simp [Instr.sameBits, bytes_beq]
theorem Qn {kc : Nat} {d : TypeDesc} (hk : iC d = some kc) : ∀ {es : List (Value × Value × Nat)} {bV : List MapEntry} {x x' y y' : Value} {cl : Nat} {kk : List (Value × Value × Nat) → Nat → Bool} (i : Nat), ER φ es bV → VR φ x x' → VR φ y y' → mD kc es x y cl kk = true →
 ∃ vV vW, kk vV vW = true ∧ ((Instr.findNow d x' bV i = some none ∧ vW = cl + 1 ∧ ER φ vV (bV ++ [{ key := x', val := y', born := cl }])) ∨
  ∃ j v' e, Instr.findNow d x' bV i = some (some (i + j, v')) ∧ vW = cl ∧ bV[j]? = some e ∧ e.key = x' ∧ ER φ vV (bV.modify j fun e => { e with key := x', val := y' }))
 | _, _, x, x', y, y', cl, kk, i, .nil, hx, hy, h => by
  simp only [mD, bH] at h
  exact ⟨_, _, h, .inl ⟨rfl, rfl, .cons _ _ _ _ _ _ hx hy rfl .nil⟩⟩
 | _, _, x, x', y, y', cl, kk, i, .cons a v b e l l' ha hv hb hl, hx, hy, h => by
  unfold mD at h
  split at h
  · rename_i he
    obtain ⟨h1, h2⟩ := yt hx ha he
    have ZZ := ZX he
    refine ⟨_, _, h, .inr ⟨0, e.val, e, ?_, rfl, rfl, by rw [h2, h1, ZZ], ?_⟩⟩
    · subst h1; simp [Instr.findNow, h2, vT hk he]
    · simp only [List.modify_zero_cons]
      exact .cons _ _ _ _ _ _ hx hy hb hl
  · rename_i he
    obtain ⟨h1, h2⟩ := yt hx ha he
    obtain ⟨vV, vW, q1, q2⟩ := Qn hk (i + 1) hl hx hy h
    rcases q2 with ⟨q2, q3, q4⟩ | ⟨j, v', e2, q2, q3, q4, q5, q6⟩
    · refine ⟨_, _, q1, .inl ⟨?_, q3, .cons _ _ _ _ _ _ ha hv hb q4⟩⟩
      subst h1; simp [Instr.findNow, h2, vT hk he, q2]
    · refine ⟨_, _, q1, .inr ⟨j + 1, v', e2, ?_, q3, by simpa using q4, q5, ?_⟩⟩
      · subst h1; simp [Instr.findNow, h2, vT hk he, q2]; omega
      · simp only [List.modify_succ_cons]
        exact .cons _ _ _ _ _ _ ha hv hb q6
  · cases h
theorem Qo {t kt e' : TypeId} {m x y : Operand} {kc : Nat} (ho : o.op = .mapUpdate t m x y ∨ o.op = .insert t m x y) (ht : P.underlying t = some (.map kt e')) (hk : (P.underlying kt).bind iC = some kc)
 (H : HR P w0 φ h w) (hv : LR φ vs ([m, x, y].map ρ)) (e : Qp kc vs h k = true) : PR P w0 φ h ((execOp ρ o).run P w) fun v h' => k v h' = true := by
 obtain ⟨d, hd, yu⟩ : ∃ d, P.underlying kt = some d ∧ iC d = some kc := by
  cases hu : P.underlying kt with
  | none => simp [hu] at hk
  | some d => exact ⟨d, rfl, by simpa [hu] using hk⟩
 obtain ⟨p, q, r, ag, e1⟩ := Qq e; clear e; subst ag; have e := e1; clear e1
 obtain ⟨p', q', r', hp, hr, hq, hy⟩ := hv.three
 simp at hp; obtain ⟨e1, e2, e3⟩ := hp; subst e1 e2 e3
 obtain ⟨Z0, e1⟩ := bJ e
 have Z1 := ZY hq Z0
 have bF : ∀ {w' : World}, (Instr.mapUpdate t (ρ m) (ρ x) (ρ y)).run P w = .ok () w' → (execOp ρ o).run P w = .ok .skip w' := by
  intro w' hh
  rcases ho with ho | ho <;> simp [execOp, ho, hh]
 rcases CW e1 with ⟨ag, e2⟩ | ⟨r0, ag, e2⟩ <;> subst ag
 · cases e2
 · obtain ⟨rb, hx, hs, nN⟩ := hr.CX
   obtain ⟨es, cl, g1, g2⟩ := tP e2
   obtain ⟨dd, n, bV, m1, m2, m3, m4⟩ := H.IC hs nN g1
   obtain ⟨vV, vW, q1, q2⟩ := Qn yu 0 m3 hq hy g2
   obtain ⟨aP, k1, k2⟩ := l5 q1
   have qa : (Instr.checkKey false 10000 kt (ρ x)).run P w = .ok () w := Qm hd yu
   have bz : rb < w.heap.size := (Array.getElem?_eq_some_iff.1 m2).1
   have fin : ∀ {es3 : Array MapEntry}, ER φ vV es3.toList → (Instr.mapUpdate t (ρ m) (ρ x) (ρ y)).run P w = .ok () { w with heap := w.heap.setIfInBounds rb (.map es3 vW) } → PR P w0 φ h ((execOp ρ o).run P w) fun v h' => k v h' = true := by
    intro es3 q3 q4
    refine ⟨undef, _, undef, _, φ, .inr ⟨bF q4, rfl⟩, k2, Ext.refl _ _, Nat.le_refl _, VR.undef _, ?_⟩
    exact H.hZ m1 k1 rfl (.map _ _ _ _ _ q3) m4 (by simp [bz]) (fun k hk => by simp [Ne.symm hk]) (by simp) rfl rfl rfl
   rcases q2 with ⟨q2, rfl, q4⟩ | ⟨j, v', e2, q2, rfl, q4, q5, q6⟩
   · refine fin (es3 := bV.push { key := ρ x, val := ρ y, born := cl }) (by simpa using q4) ?_
     have hf := run_findKey (P := P) (w := w) hd q2
     simp [Instr.mapUpdate, run_underlying ht, hx, getObj, setObj, Sem.run, m2, qa, hf]
   · refine fin (es3 := bV.modify j fun e => { e with key := ρ x, val := ρ y }) (by simpa using q6) ?_
     simp only [Nat.zero_add] at q2
     have hf := run_findKey (P := P) (w := w) hd q2
     have CY : bV[j]? = some e2 := by simpa using q4
     have gQ : (Instr.keyThatStays (ρ x) (ρ x)).run P w = .ok (ρ x) w := by simp [Instr.keyThatStays, Z1]
     simp [Instr.mapUpdate, run_underlying ht, hx, getObj, setObj, Sem.run, m2, qa, hf, CY, q5, gQ]
theorem Z2 {x : Operand} {xt t : TypeId} {d : TypeDesc} {z : Value} (ho : o.op = .typeAssert x xt t true) (hu : P.underlying t = some d) (hd : ∀ m, d ≠ .interface m) (hz : zeroOf P t = some z) (H : HR P w0 φ h w) (hv : LR φ vs ([x].map ρ)) (e : CZ t z vs h k = true) : PR P w0 φ h ((execOp ρ o).run P w) fun v h' => k v h' = true := by
 obtain ⟨i, hi, hz, ej⟩ := mC hz
 obtain ⟨p, ag, e1⟩ := dO e; clear e; subst ag; have e := e1; clear e1
 obtain ⟨p', hp, hr⟩ := hv.one
 simp at hp; subst hp
 unfold ID at e
 have tQ : ∀ v : Value, (execOp ρ o).run P w = ((Instr.typeAssert (ρ x) xt t true).run P w).andThen (fun a w' => .ok (.value a) w') := by intro _; simp [execOp, ho]
 split at e
 · have hx : ρ x = .nilIface := by generalize ρ x = X at hr; cases hr; rfl
   refine .same H (v' := .tuple #[z, .bool false]) ?_ (.eW _ _ (.cons _ _ _ _ (nM ej) (.cons _ _ _ _ (.bool _) .nil))) e
   rw [tQ undef, hx]
   simp only [Instr.typeAssert, Sem.run_bind, run_underlying hu, Result.andThen_ok]
   cases d <;> first | (exact absurd rfl (hd _)) | simp [oO hi hz]
 · rename_i t' v
   obtain ⟨v', hx, IE⟩ : ∃ v', ρ x = .iface t' v' ∧ VR φ v v' := by generalize ρ x = X at hr; cases hr with | iface _ _ v' h => exact ⟨v', rfl, h⟩
   by_cases IF : t' = t
   · subst IF
     rw [jG rfl, cond_true] at e
     refine .same H (v' := .tuple #[v', .bool true]) ?_ (.eW _ _ (.cons _ _ _ _ IE (.cons _ _ _ _ (.bool _) .nil))) e
     rw [tQ undef, hx]
     simp only [Instr.typeAssert, Sem.run_bind, run_underlying hu, Result.andThen_ok]
     cases d <;> first | (exact absurd rfl (hd _)) | simp
   · rw [ep IF, cond_false] at e
     refine .same H (v' := .tuple #[z, .bool false]) ?_ (.eW _ _ (.cons _ _ _ _ (nM ej) (.cons _ _ _ _ (.bool _) .nil))) e
     rw [tQ undef, hx]
     simp only [Instr.typeAssert, Sem.run_bind, run_underlying hu, Result.andThen_ok]
     cases d <;> first | (exact absurd rfl (hd _)) | simp [IF, oO hi hz]
 · cases e
theorem Z3 {x : Operand} {t : TypeId} (ho : o.op = .range t x) (hu : P.underlying t = some .string) (H : HR P w0 φ h w) (hv : LR φ vs ([x].map ρ)) (e : Qr vs h k = true) : PR P w0 φ h ((execOp ρ o).run P w) fun v h' => k v h' = true := by
 obtain ⟨p, ag, e1⟩ := dO e; clear e; subst ag; have e := e1; clear e1
 obtain ⟨p', hp, hr⟩ := hv.one
 simp at hp; subst hp
 obtain ⟨s, ag, e1⟩ := jJ e; clear e; subst ag; have e := e1; clear e1
 obtain ⟨aP, h1, h2⟩ := rz e
 obtain ⟨g1, g2⟩ := H.newAt (f := h.nx) (o := .lj s 0) (o' := .stringIter s 0) (d := 0) (n := 0) (h' := ⟨h.nx + 1, aP⟩) (H.fresh _ (Nat.le_refl _)) h1.1 (fun g hg _ => h1.2 g hg) (fun g hg => H.fresh g (by simp only at hg; omega)) (fun g hg => by rw [h1.2 g (by simp only at hg; omega)]; exact H.top g (by simp only at hg; omega)) (by simp) _ (Nat.le_refl _) (.lj _ _ _)
 refine ⟨_, _, _, _, _, .inl ?_, h2, g2, by simp, PR.vX, g1⟩
 simp only [execOp, ho, hr.iD]
 simp [run_range_string w t s hu, World.iter]
theorem Z4 {x : Operand} (ho : o.op = .next x true) (H : HR P w0 φ h w) (hv : LR φ vs ([x].map ρ)) (e : Qs vs h k = true) : PR P w0 φ h ((execOp ρ o).run P w) fun v h' => k v h' = true := by
 obtain ⟨p, ag, e1⟩ := dO e; clear e; subst ag; have e := e1; clear e1
 obtain ⟨p', hp, hr⟩ := hv.one
 simp at hp; subst hp
 obtain ⟨a, ag, e1⟩ := j6 e; clear e; subst ag; have e := e1; clear e1
 obtain ⟨a', hx, hs, cb⟩ := hr.ja
 obtain ⟨h0, e1⟩ := bJ e
 have h0 := Nat.eq_of_beq_eq_true h0
 obtain ⟨s, pos, g1, g2⟩ := Z5 e1
 obtain ⟨b, d, n, o', m1, m2, m3, m4⟩ := H.live hs g1
 obtain ⟨q1, q2, q3⟩ := cb b d n m1
 cases m3
 have C0 : a' = ⟨b, 0, none⟩ := by cases a'; simp_all
 have bz : b < w.heap.size := (Array.getElem?_eq_some_iff.1 m2).1
 unfold Qt at g2
 split at g2
 · rename_i c hc
   have ew : pos < s.size := by
    have : pos < s.data.toList.length := (List.getElem?_eq_some_iff.1 hc).1
    simpa using this
   have fin : ∀ (c n : Nat) (aP : NT AO), Utf8.decode s pos = (c, n) → h.ob.gP a.block (some (.lj s (pos + n))) aP → k (.tuple #[.bool true, .int .i64 (Int.ofNat pos), .int .i32 (Int.ofNat c)]) ⟨h.nx, aP⟩ = true →
    PR P w0 φ h ((execOp ρ o).run P w) fun v h' => k v h' = true := fun c n aP IG k1 k2 => by
    refine ⟨.tuple #[.bool true, .int .i64 (Int.ofNat pos), .int .i32 (Int.ofNat c)], { w with heap := w.heap.setIfInBounds b (.stringIter s (pos + n)) }, _, _, φ, .inl ?_, k2, Ext.refl _ _, Nat.le_refl _, .eW _ _ (.cons _ _ _ _ (.bool _) (.cons _ _ _ _ (.int _ _) (.cons _ _ _ _ (.int _ _) .nil))), ?_⟩
    · simp [execOp, ho, hx, C0, Instr.next, getObj, setObj, Sem.run, m2, ew, IG, goInt]
    · exact H.hZ m1 k1 rfl (.lj _ _ _) (m4 rfl) (by simp [bz]) (fun k hk => by simp [Ne.symm hk]) (by simp) rfl rfl rfl
   cases yx : Nat.ble (Nat.succ c.toNat) 128 with
   | true =>
    rw [yx] at g2
    have yx : c.toNat < 128 := Nat.le_of_ble_eq_true yx
    have g3 : fN (Nat.succ pos) (fun pos' => ff h a.block (some (.lj s pos')) fun h => fN c.toNat fun n => k (.tuple ⟨[.bool true, .int .i64 (.ofNat pos), .int .i32 (.ofNat n)]⟩) h) = true := g2
    rw [bH] at g3
    obtain ⟨aP, k1, k2⟩ := l5 g3
    rw [bH] at k2
    have dP : s[pos]'ew = c := by
     have h3 : s.data.toList[pos]'(by simpa using ew) = c := (List.getElem?_eq_some_iff.1 hc).2
     have h4 : s.data[pos]'ew = c := by simpa using h3
     exact h4
    have IG : Utf8.decode s pos = (c.toNat, 1) := by
     rw [decode_ascii s pos ew (by rw [dP]; exact yx), dP]
    exact fin _ _ aP IG k1 k2
   | false =>
    rw [yx] at g2
    have g3 : ff h a.block (some (.lj s (pos + (Utf8.decode s pos).2))) (fun h => k (.tuple ⟨[.bool true, .int .i64 (.ofNat pos), .int .i32 (.ofNat (Utf8.decode s pos).1)]⟩) h) = true := g2
    obtain ⟨aP, k1, k2⟩ := l5 g3
    exact fin _ _ aP rfl k1 k2
 · rename_i hc
   have ew : ¬ pos < s.size := by
    have := List.getElem?_eq_none_iff.1 hc
    simp at this
    have h2 : s.size = s.data.size := rfl
    omega
   refine .same H (v' := .tuple #[.bool false]) ?_ (.eW _ _ (.cons _ _ _ _ (.bool _) .nil)) g2
   simp [execOp, ho, hx, C0, Instr.next, getObj, setObj, Sem.run, m2, ew]
end
end Go.Ve
namespace Go.Ve
open Go.RowKit
section
variable {P : Program} {w0 w : World} {φ : ak} {h : AH} {ρ : Operand → Value} {o : Oper} {vs : List Value} {k : KV}
theorem Qu (off : Nat) : ∀ (l : List Value) (n : Nat) (cells : Array Value), off + n + l.length ≤ cells.size →
 ((l.zipIdx n).foldl (fun (cs : Array Value) (p : Value × Nat) => cs.setIfInBounds (off + p.2) p.1) cells).toList = cells.toList.take (off + n) ++ l ++ cells.toList.drop (off + n + l.length)
 | [], n, cells, _ => by simp
 | v :: l, n, cells, h => by
  simp only [List.length_cons] at h
  simp only [List.zipIdx_cons, List.foldl_cons]
  rw [Qu off l (n + 1) _ (by simp; omega)]
  simp only [Array.toList_setIfInBounds]
  have := list_seg_step cells.toList (off + n) v l (by simp; omega)
  simp only [List.length_cons]
  rw [← this]
  congr 2
theorem Qv (off : Nat) (v : Value) (cells : Array Value) (h : off + v.cells.size ≤ cells.size) :
 (v.cells.zipIdx.foldl (fun cs (c, j) => cs.setIfInBounds (off + j) c) cells) = (cells.toList.take off ++ v.cells.toList ++ cells.toList.drop (off + v.cells.toList.length)).toArray := by
 apply Array.ext'
 rw [← Array.foldl_toList, Array.toList_zipIdx]
 have := Qu off v.cells.toList 0 cells (by simpa using h)
 simpa using this
theorem C1 {place : Nat → Option (Nat × Nat)} : ∀ {ps : List (Nat × Nat)} {parts : List (Nat × Value)} {l l' vs : List Value} {kk : List Value → Bool}, ia l ps vs kk = true → LR φ l l' → LR φ vs (parts.map (·.2)) → parts.map (fun p => place p.1) = ps.map some →
 ∃ r r', kk r = true ∧ LR φ r r' ∧ Instr.fill place l'.toArray parts = some r'.toArray
 | [], parts, l, l', vs, kk, h, hl, hv, hp => by
  have IH : parts = [] := by cases parts with | nil => rfl | cons _ _ => simp at hp
  subst IH
  cases vs with
  | cons _ _ => cases h
  | nil => exact ⟨l, l', h, hl, rfl⟩
 | (off, sz) :: ps, parts, l, l', vs, kk, h, hl, hv, hp => by
  cases parts with
  | nil => simp at hp
  | cons part parts =>
   obtain ⟨i, v'⟩ := part
   simp only [List.map_cons, List.cons.injEq] at hp
   cases vs with
   | nil => cases h
   | cons v vs =>
    simp only [List.map_cons] at hv
    cases hv with | cons _ _ _ _ qb l6 =>
    have h' : (bif gE (cellsOf v) sz then mE l off (cellsOf v) fun l' => ia l' ps vs kk else false) = true := h
    cases hle : gE (cellsOf v) sz with
    | false => rw [hle] at h'; cases h'
    | true =>
     rw [hle, cond_true] at h'
     have dW := C2 _ hle
     rw [vY] at dW h'
     obtain ⟨h1, h2⟩ := Qw l h'
     have hc := VR.cells qb
     have jb := hc.length
     have jK := hl.length
     have Z6 : LR φ (l.take off ++ v.cells.toList ++ l.drop (off + v.cells.toList.length)) (l'.take off ++ v'.cells.toList ++ l'.drop (off + v'.cells.toList.length)) := by
      rw [← jb]
      exact LR.append (hl.drop _) (LR.append hc (hl.take off))
     obtain ⟨r, r', q1, q2, q3⟩ := C1 h1 Z6 l6 hp.2
     refine ⟨r, r', q1, q2, ?_⟩
     have vZ : v'.cells.size = sz := by rw [← dW, jb]; simp
     have pV : ¬ (off + v'.cells.size > l'.toArray.size) := by simp; rw [vZ]; omega
     simp only [Instr.fill, hp.1]
     rw [if_neg (by simp [vZ]; simp at pV; rw [vZ] at pV; omega)]
     rw [Qv off v' l'.toArray (by simp at pV; simp; omega)]
     exact q3
def wa : List Value → List Value
 | [] => []
 | v :: vs => v.cells.toList ++ wa vs
theorem Qx : ∀ {ss : List Nat} {vs : List Value} {kk : List Value → Bool}, tR ss vs kk = true → kk (wa vs) = true ∧ vs.map (fun v => v.cells.size) = ss
 | [], vs, kk, h => by
  obtain ⟨rfl, h⟩ := rA (show a0 vs (kk []) = true from h)
  exact ⟨h, rfl⟩
 | n :: ss, vs, kk, h => by
  cases vs with
  | nil => cases h
  | cons v vs =>
   obtain ⟨h1, h2⟩ := bJ (show iff (gE (cellsOf v) n) (tR ss vs fun l => gi (cellsOf v) l kk) = true from h)
   obtain ⟨h3, h4⟩ := Qx h2
   have := pW _ _ h3
   rw [vY] at this
   have hs := C2 _ h1
   rw [vY] at hs
   exact ⟨this, by simp [h4]; simpa using hs⟩
theorem Qy : ∀ {vs gm : List Value}, LR φ vs gm → LR φ (wa vs) (wa gm)
 | _, _, .nil => .nil
 | _, _, .cons _ _ _ _ h hl => LR.append (Qy hl) (VR.cells h)
theorem LR.tN : ∀ {vs gm : List Value}, LR φ vs gm → vs.map (fun v => v.cells.size) = gm.map (fun v => v.cells.size)
 | _, _, .nil => rfl
 | _, _, .cons _ _ _ _ h hl => by
  have := (VR.cells h).length
  simp only [List.map_cons, LR.tN hl]
  congr 1
theorem Qz {place : Nat → Option (Nat × Nat)} : ∀ {ps : List (Nat × Nat)} {parts : List (Nat × Value)} {n m : Nat} {done rest : List Value}, rC n ps m = true → parts.map (fun p => place p.1) = ps.map some → parts.map (fun p => p.2.cells.size) = ps.map (·.2) →
 done.length = n → n + rest.length = m → Instr.fill place (done ++ rest).toArray parts = some (done ++ wa (parts.map (·.2))).toArray
 | [], parts, n, m, done, rest, hc, hp, hs, hd, hr => by
  have IH : parts = [] := by cases parts with | nil => rfl | cons _ _ => simp at hp
  subst IH
  simp only [rC, beq_iff_eq] at hc
  have : rest = [] := List.eq_nil_of_length_eq_zero (by omega)
  subst this
  rfl
 | (off, sz) :: ps, parts, n, m, done, rest, hc, hp, hs, hd, hr => by
  cases parts with
  | nil => simp at hp
  | cons part parts =>
   obtain ⟨i, v'⟩ := part
   simp only [List.map_cons, List.cons.injEq] at hp hs
   simp only [rC, Bool.and_eq_true, beq_iff_eq] at hc
   obtain ⟨rfl, hc⟩ := hc
   have hm : n + sz ≤ m := by
    have : ∀ (ps : List (Nat × Nat)) (n m : Nat), rC n ps m = true → n ≤ m := by
     intro ps
     induction ps with
     | nil => intro n m h; simp only [rC, beq_iff_eq] at h; omega
     | cons p ps ih => intro n m h; obtain ⟨a, b⟩ := p; simp only [rC, Bool.and_eq_true, beq_iff_eq] at h; have := ih _ _ h.2; omega
    exact this _ _ _ hc
   have vZ : v'.cells.size = sz := hs.1
   simp only [Instr.fill, hp.1]
   rw [if_neg (by simp [vZ]; omega)]
   rw [Qv n v' _ (by simp; omega)]
   have e1 : List.take n (done ++ rest).toArray.toList ++ v'.cells.toList ++ List.drop (n + v'.cells.toList.length) (done ++ rest).toArray.toList = (done ++ v'.cells.toList) ++ rest.drop sz := by
    have mF : v'.cells.toList.length = sz := by simpa using vZ
    simp only [mF]
    rw [List.take_append_of_le_length (by omega), List.take_of_length_le (by omega)]
    congr 1
    rw [List.drop_append]
    simp [hd]
   rw [e1]
   have := Qz (place := place) (done := done ++ v'.cells.toList) (rest := rest.drop sz) hc hp.2 hs.2 (by simp; omega) (by simp; omega)
   rw [this]
   simp [wa, List.append_assoc]
theorem run_places : ∀ (fs : List Field), (∀ f ∈ fs, (dL P f.type).isSome = true) → (fs.mapM fun f => (do pure (f.offset, ← sizeOf f.type) : Sem (Nat × Nat))).run P w = .ok (fs.map fun f => (f.offset, (dL P f.type).getD 0)) w
 | [], _ => by simp
 | f :: fs, h => by
  obtain ⟨s, hs⟩ := Option.isSome_iff_exists.1 (h f (by simp))
  obtain ⟨i, hi, rfl⟩ := j7 hs
  have ih := run_places fs (fun g hg => h g (by simp [hg]))
  rw [List.mapM_cons]
  simp only [Sem.run_bind, hY hi, Result.andThen_ok, Sem.run_pure, ih, List.map_cons, hs, Option.getD_some]
theorem mapM_some {α β : Type} {f : α → Option β} : ∀ {l : List α} {r : List β}, l.mapM f = some r → l.map f = r.map some
 | [], r, h => by simp at h; subst h; rfl
 | a :: l, r, h => by
  simp only [List.mapM_cons, Option.bind_eq_bind, Option.bind_eq_some_iff] at h
  obtain ⟨b, hb, r', hr, e⟩ := h
  simp at e
  subst e
  simp [hb, mapM_some hr]
theorem QA {t : TypeId} {parts : Array (Nat × Operand)} {z : Value} {ps : List (Nat × Nat)} {place : Nat → Option (Nat × Nat)} (hz : zeroOf P t = some z)
 (bF : ∀ {cells : Array Value}, Instr.fill place z.cells (parts.map fun (i, x) => (i, ρ x)).toList = some cells → (execOp ρ o).run P w = .ok (.value (.agg cells)) w)
 (ew : parts.toList.map (fun p => place p.1) = ps.map some) (H : HR P w0 φ h w) (hv : LR φ vs ((parts.toList.map (·.2)).map ρ)) (e : (tS z.cells.toList ps).ev vs h k = true) : PR P w0 φ h ((execOp ρ o).run P w) fun v h' => k v h' = true := by
 obtain ⟨i, hi, ln, ej⟩ := mC hz
 have l7 : (parts.map fun (i, x) => (i, ρ x)).toList.map (fun p => place p.1) = ps.map some := by
  rw [← ew]; simp [Function.comp_def]
 have mF : LR φ vs ((parts.map fun (i, x) => (i, ρ x)).toList.map (·.2)) := by
  simpa [Function.comp_def] using hv
 have oP : LR φ z.cells.toList z.cells.toList := VR.cells (nM ej)
 unfold tS at e
 split at e
 · rename_i hc
   obtain ⟨e1, e2⟩ := Qx (show tR (ps.map (·.2)) vs (fun l => k (.agg ⟨l⟩) h) = true from e)
   have hf := Qz (place := place) (done := []) (rest := z.cells.toList) hc l7 (by rw [← e2, LR.tN mF]; simp) rfl (by simp)
   exact .same H (bF (by simpa using hf)) (.agg _ _ (by simpa using Qy mF)) e1
 · obtain ⟨r, r', q1, q2, q3⟩ := C1 (place := place) (show ia z.cells.toList ps vs (fun l => k (.agg ⟨l⟩) h) = true from e) oP mF l7
   exact .same H (bF (by simpa using q3)) (.agg _ _ (by simpa using q2)) q1
theorem Z7 {t : TypeId} {parts : Array (Nat × Operand)} {fs : Array Field} {z : Value} {ps : List (Nat × Nat)} (ho : o.op = .build t parts) (hu : P.underlying t = some (.struct fs)) (hz : zeroOf P t = some z) (eO : ∀ f ∈ fs.toList, (dL P f.type).isSome = true)
    (ew : parts.toList.mapM (fun p => (fs[p.1]?).bind fun f => (dL P f.type).map fun s => (f.offset, s)) = some ps) (H : HR P w0 φ h w) (hv : LR φ vs ((parts.toList.map (·.2)).map ρ)) (e : (tS z.cells.toList ps).ev vs h k = true) : PR P w0 φ h ((execOp ρ o).run P w) fun v h' => k v h' = true := by
  obtain ⟨i, hi, ln, ej⟩ := mC hz
  refine QA (place := fun j => (fs.map fun f => (f.offset, (dL P f.type).getD 0))[j]?) hz (fun {cells} hf => ?_) ?_ H hv e
  · have l7 : (fs.mapM fun f => (do pure (f.offset, ← sizeOf f.type) : Sem (Nat × Nat))).run P w = .ok (fs.map fun f => (f.offset, (dL P f.type).getD 0)) w := by
      rw [Array.mapM_eq_mapM_toList]
      simp only [Sem.run_map, run_places fs.toList eO, Result.andThen_ok]
      congr 1
      apply Array.ext'
      simp
    simp only [execOp, ho, Instr.build, Sem.run_bind, oO hi ln, Result.andThen_ok, run_underlying hu]
    rw [l7]
    simp only [Result.andThen_ok]
    rw [hf]
    simp
  · rw [← mapM_some ew]
    apply List.map_congr_left
    intro p hp
    simp only [Array.getElem?_map]
    cases Z8 : fs[p.1]? with
    | none => simp
    | some f =>
      have hm : f ∈ fs.toList := by simpa using Array.mem_of_getElem? Z8
      obtain ⟨s, hs⟩ := Option.isSome_iff_exists.1 (eO f hm)
      simp [hs]
theorem Z9 {t e' : TypeId} {n s : Nat} {parts : Array (Nat × Operand)} {z : Value} (ho : o.op = .build t parts) (hu : P.underlying t = some (.array n e')) (hz : zeroOf P t = some z) (hs : dL P e' = some s)
 (H : HR P w0 φ h w) (hv : LR φ vs ((parts.toList.map (·.2)).map ρ)) (e : (tS z.cells.toList (parts.toList.map fun p => (p.1 * s, s))).ev vs h k = true) : PR P w0 φ h ((execOp ρ o).run P w) fun v h' => k v h' = true := by
 obtain ⟨i, hi, ln, ej⟩ := mC hz
 obtain ⟨i2, er, rfl⟩ := j7 hs
 refine QA (place := fun j => some (j * i2.size, i2.size)) hz (fun {cells} hf => ?_) ?_ H hv e
 · simp only [execOp, ho, Instr.build, Sem.run_bind, oO hi ln, Result.andThen_ok, run_underlying hu, hY er]
   rw [hf]
   simp
 · simp [Function.comp_def]
theorem aaa {t e' : TypeId} {n s : Nat} {parts : Array (Nat × Operand)} {z : Value} (ho : o.op = .buildSlice t n parts) (hu : P.underlying t = some (.slice e')) (hz : zeroOf P e' = some z) (hs : dL P e' = some s) (hle : n * s ≤ 65536) (kN : z.cells.size = s) (h0 : 0 < s)
    (H : HR P w0 φ h w) (hv : LR φ vs ((parts.toList.map (·.2)).map ρ)) (e : QB e' n (iB n z.cells.toList) (parts.toList.map fun p => (p.1 * s, s)) vs h k = true) : PR P w0 φ h ((execOp ρ o).run P w) fun v h' => k v h' = true := by
  obtain ⟨i, hi, ln, ej⟩ := mC hz
  obtain ⟨i2, er, pV⟩ := j7 hs
  rw [hi] at er; cases er
  subst pV
  have l7 : (parts.map fun (i, x) => (i, ρ x)).toList.map (fun p => some (p.1 * i.size, i.size)) = (parts.toList.map fun p => (p.1 * i.size, i.size)).map some := by simp [Function.comp_def]
  have mF : LR φ vs ((parts.map fun (i, x) => (i, ρ x)).toList.map (·.2)) := by simpa [Function.comp_def] using hv
  obtain ⟨r, r', q1, q2, q3⟩ := C1 (place := fun j => some (j * i.size, i.size)) e (LR.CV (VR.cells (nM (φ := φ) ej)) n) mF l7
  obtain ⟨nL, c, aP, k1, k2, k3⟩ := pY q1
  obtain ⟨r1, r2⟩ := PR.newRow H q2 k1 k2
  have hm : ((Array.range (n * i.size)).map fun j => z.cells[j % z.cells.size]!) = (iB n z.cells.toList).toArray := by
    apply Array.ext'
    have := Iz z.cells (by omega) n
    rw [← kN]
    simpa [madeCells] using this
  have rD : Instr.fill (fun j => some (j * i.size, i.size)) (iB n z.cells.toList).toArray (List.map (fun x => (x.fst, ρ x.snd)) parts.toList) = some r'.toArray := by simpa using q3
  have bF : (execOp ρ o).run P w = .ok (.value (.slice (some ⟨w.heap.size, 0, none⟩) n n)) (w.alloc (.cells r'.toArray e')) := by
    have yy : ¬ (16777216 < n * i.size) := by omega
    simp only [execOp, ho, Instr.buildSlice, Sem.run_bind, run_underlying hu, Result.andThen_ok, hY hi]
    by_cases lq : n * i.size = 0
    · have yz : ((Array.range (n * i.size)).map fun j => (#[] : Array Value)[j % (#[] : Array Value).size]!) = (iB n z.cells.toList).toArray := by
        rw [← hm, lq]; simp [Array.range_zero']
      simp [yy, lq]
      simp [lq] at yz
      rw [yz]
      rw [rD]
      simp [newRow, World.alloc_eq]
    · simp [yy, lq, oO hi ln]
      rw [hm, rD]
      simp [newRow, World.alloc_eq]
  refine ⟨_, _, _, _, _, .inl bF, k3, r2, by simp, .sl _ _ _ _ _ (by simp [ak.put]) (.inl ⟨by unfold aT; have : n ≤ n * i.size := Nat.le_mul_of_pos_right n h0; omega, rfl, Nat.le_refl _, fun _ b d m hl => ?_⟩), r1⟩
  simp only [ak.gj] at hl
  cases hl
  exact ⟨rfl, rfl, rfl⟩
end
end Go.Ve
