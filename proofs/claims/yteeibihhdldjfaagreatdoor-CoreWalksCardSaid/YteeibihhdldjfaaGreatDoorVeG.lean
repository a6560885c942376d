/- Part 7: VEval, part 9: append, copy, make, maps, strings, composite values. No condition. And what follows it. -/
import Derived.Test.YteeibihhdldjfaaGreatDoorVeF
import Derived.MapKept
set_option linter.unusedVariables false
set_option linter.unusedSimpArgs false
namespace Go.Ve
open Go.RowKit
section
variable {P : Program} {w0 w : World} {φ : au} {h : AH} {ρ : Operand → Value} {o : Oper} {vs : List Value} {k : KV}
theorem afC {x : Value} {x' : Value} {sz : Nat} {kk : Nat → List Value → Bool} (H : HR P w0 φ h w) (hr : VR φ x x') (e : k9 h sz x kk = true) :
 ∃ n xs mj, kk n xs = true ∧ xs.length = n * sz ∧ LR φ xs mj ∧ (Builtin.lenOf x').run P w = .ok n w ∧ ∀ w', w'.heap = w.heap → (Builtin.firstCells sz n x').run P w' = .ok mj.toArray w' := by
 unfold k9 at e
 rcases oK e with ⟨l0, c0, ah, e1⟩ | ⟨a, len, cap, ah, e1⟩ <;> clear e <;> subst ah
 · obtain ⟨rfl, rfl, hx⟩ := hr.pU
   subst hx
   exact ⟨0, [], [], e1, by simp, .nil, by simp [Builtin.lenOf], fun w' _ => by simp [Builtin.firstCells]⟩
 · obtain ⟨a', cH, hx, hs, hc⟩ := hr.nF
   subst hx
   by_cases hn : len = 0
   · subst hn
     rw [j6 rfl, cond_true] at e1
     exact ⟨0, [], [], e1, by simp, .nil, by simp [Builtin.lenOf], fun w' _ => by simp [Builtin.firstCells, loadCells, loadCellsFrom]⟩
   · rw [eP hn, cond_false] at e1
     have cB : AtR φ a a' := by
      rcases hc with ⟨h1, h2, oO, h3⟩ | ⟨sz, h1, h2, h3, h4⟩
      · exact h3 (by omega)
      · exact (h4 (by omega)).1
     obtain ⟨lo, hi, ty, l7, c, l, g1, g2, g3, g4, g5, g6⟩ := td e1
     have BL : a.off + l.length ≤ hi := by rw [g4]; exact g3
     obtain ⟨l', q1, q2⟩ := H.cells (P := P) hs cB g1 g2 BL g5
     refine ⟨len, l, l', g6, g4, q1, by simp [Builtin.lenOf], fun w' hw => ?_⟩
     have := q2 w' hw
     rw [g4] at this
     exact this
theorem GU {mi : Array TypeId} {t u e eu ty : TypeId} {i : TypeInfo} (ht : P.underlying t = some (.slice e)) (hu : P.underlying u = some (.slice eu) ∨ P.underlying u = some .string) (hi : P.info? e = some i) (h0 : mi[0]? = some t) (h1 : mi[1]? = some u)
 {a : Option Addr} {sLen sCap n : Nat} {x : Value} {news : List Value} {w2 : World} (hlen : (Builtin.lenOf x).run P w = .ok n w) (hf : (Builtin.firstCells i.size n x).run P w = .ok news.toArray w)
 (iq : (match a with | some b => (storeCells (b.add (sLen * i.size)) news).run P w | none => .ok () w) = .ok () w2) (nb : sLen + n ≤ sCap) :
 (Builtin.append_ mi ty #[.slice a sLen sCap, x]).run P w = .ok (.slice a (sLen + n) sCap) w2 := by
 have h0' : mi[0]? = some t := h0
 cases a with
 | none =>
  simp only [Result.ok.injEq] at iq
  obtain ⟨_, rfl⟩ := iq
  rcases hu with hu | hu <;> simp [Builtin.append_, h0, h1, run_underlying ht, run_underlying hu, sizeOf, typeInfo, hi, hlen, nb, hf]
 | some b =>
  rcases hu with hu | hu <;> simp [Builtin.append_, h0, h1, run_underlying ht, run_underlying hu, sizeOf, typeInfo, hi, hlen, nb, hf, iq]
theorem GV {mi : Array TypeId} {t u e eu ty : TypeId} {i : TypeInfo} {z : Value} (ht : P.underlying t = some (.slice e)) (hu : P.underlying u = some (.slice eu) ∨ P.underlying u = some .string) (hi : P.info? e = some i) (hz : i.zero = some z) (h0 : mi[0]? = some t) (h1 : mi[1]? = some u)
 {a : Option Addr} {sLen sCap n : Nat} {x : Value} {olds news : List Value} (hlen : (Builtin.lenOf x).run P w = .ok n w) (hf : ∀ w', w'.heap = w.heap → (Builtin.firstCells i.size n x).run P w' = .ok news.toArray w')
 (GS : ∀ w', w'.heap = w.heap → (Builtin.firstCells i.size sLen (.slice a sLen sCap)).run P w' = .ok olds.toArray w') (hg : sCap < sLen + n) (hb : (sLen + n) * i.bytes ≤ 140737488355328) (alU : sLen + n ≤ 1048576) :
 ∃ nc, sLen + n ≤ nc ∧ (Builtin.append_ mi ty #[.slice a sLen sCap, x]).run P w = .ok (.slice (some ⟨w.heap.size, 0, none⟩) (sLen + n) nc) (w.drew.alloc (.cells ((olds ++ news).toArray ++ Builtin.zeroCells z.cells (nc - (sLen + n))) e)) := by
 refine ⟨grownCap w (sLen + n) sCap e, grownCap_ge w _ _ _, ?_⟩
 have hn : ¬ (sLen + n ≤ sCap) := by omega
 have FV : ¬ (9223372036854775807 < ((sLen : Int) + (n : Int))) := by omega
 have yb := growslice_fits (bytes := i.bytes) hg hb
 have WJ : ¬ (281474976710656 < Builtin.nextslicecap (sLen + n) sCap * i.bytes) := by omega
 have vC := hf w.drew rfl
 have vD := GS w.drew rfl
 rcases hu with hu | hu
 · simp [Builtin.append_, h0, h1, run_underlying ht, run_underlying hu, sizeOf, typeInfo, zeroValue, hi, hz, hlen, hn, FV, WJ, Question.forced, vC, vD, newRow, grownCap]
   rw [← Array.append_assoc]
   simp
 · simp [Builtin.append_, h0, h1, run_underlying ht, run_underlying hu, sizeOf, typeInfo, zeroValue, hi, hz, hlen, hn, FV, WJ, Question.forced, vC, vD, newRow, grownCap]
   rw [← Array.append_assoc]
   simp
theorem AtR.add {a a' : Addr} (h : AtR φ a a') (n : Nat) : AtR φ ⟨a.block, a.off + n, none⟩ (a'.add n) := by
 intro b d m hl
 obtain ⟨e1, e2, e3⟩ := h b d m hl
 rw [lJ a' e3]
 exact ⟨e1, by show a'.off + n + d = a.off + n; omega, rfl⟩
theorem PR.afD (H : HR P w0 φ h w) {ty : TypeId} {l l' : List Value} (hl : LR φ l l') {arr : Array Value} (afE : ∀ (j : Nat) (v : Value), l'[j]? = some v → arr[j]? = some v) {c : NT Value} {o : Nat} {aU : NT AO} (hc : ∀ (j : Nat) (v : Value), l[j]? = some v → c.get (o + j) = some v)
 (bV : h.ob.im h.nx (some (.cells o (o + l.length) ty true c)) aU) :
 HR P w0 (φ.put h.nx (.live w.heap.size o arr.size)) ⟨h.nx + 1, aU⟩ (w.alloc (.cells arr ty)) ∧ Ext h.nx φ (φ.put h.nx (.live w.heap.size o arr.size)) := by
 refine H.newAt (H.fresh _ (Nat.le_refl _)) bV.1 (fun g hg _ => bV.2 g hg) (fun g hg => H.fresh g (by simp only at hg; omega)) (fun g hg => by rw [bV.2 g (by simp only at hg; omega)]; exact H.top g (by simp only at hg; omega)) (by simp) _ (Nat.le_refl _) ?_
 refine .cells _ _ _ _ _ _ _ _ _ (fun _ => rfl) (Nat.le_refl _) rfl fun p KD zZ => ?_
 obtain ⟨j, rfl⟩ : ∃ j, p = o + j := ⟨p - o, by omega⟩
 have hj : j < l.length := by omega
 obtain ⟨u, hu, hr⟩ := LR.get hl j _ (List.getElem?_eq_getElem hj)
 exact ⟨l[j], u, hc j _ (List.getElem?_eq_getElem hj), by rw [show o + j - o = j by omega]; exact afE j u hu, hr⟩
theorem HR.drew (H : HR P w0 φ h w) : HR P w0 φ h w.drew := H.world rfl rfl rfl rfl
theorem PR.GW {r : Result Next} (H : HR P w0 φ h w) {ty : TypeId} {l l' : List Value} {z : Value} {sz n nc o : Nat} (eB : 0 < sz) (hz : z.cells.size = sz) (hl : LR φ l l') (hlen : l.length = n * sz) (KW : n ≤ nc) {c : NT Value} {aU : NT AO}
 (hc : ∀ (j : Nat) (v : Value), l[j]? = some v → c.get (o + j) = some v) (bV : h.ob.im h.nx (some (.cells o (o + l.length) ty true c)) aU) {k : KV} (e : k (.slice (some ⟨h.nx, o, none⟩) n (aT + sz)) ⟨h.nx + 1, aU⟩ = true)
 (hr : r = .ok (.value (.slice (some ⟨w.heap.size, 0, none⟩) n nc)) (w.drew.alloc (.cells (l'.toArray ++ Builtin.zeroCells z.cells (nc - n)) ty))) : PR P w0 φ h r fun v h' => k v h' = true := by
 obtain ⟨g1, g2⟩ := PR.afD (P := P) H.drew (arr := l'.toArray ++ Builtin.zeroCells z.cells (nc - n)) hl (fun j v hj => by
  have : j < l'.length := (List.getElem?_eq_some_iff.1 hj).1
  rw [Array.getElem?_append]
  simp [this]
  simpa using (List.getElem?_eq_some_iff.1 hj).2) hc bV
 refine ⟨_, _, _, _, _, .inl hr, e, g2, by simp, .sl _ _ _ _ _ (by simp [au.put]) (.inr ⟨sz, rfl, eB, KW, fun _ => ⟨fun b d m hl => ?_, fun b d m hl => ?_⟩⟩), g1⟩
 · simp only [au.gN] at hl
   cases hl
   exact ⟨rfl, by show 0 + o = o; omega, rfl⟩
 · simp only [au.gN] at hl
   cases hl
   have h2 := hl.length
   simp only [Array.size_append, List.size_toArray, size_zeroCells, hz]
   rw [← h2, hlen, ← Nat.add_mul]
   show 0 + nc * sz ≤ _
   have : n + (nc - n) = nc := by omega
   rw [this]; omega
theorem HR.afF (H : HR P w0 φ h w) {a a' : Addr} {lo hi : Nat} {ty : TypeId} {rw : Bool} {c : NT Value} (hs : φ a.block ≠ none) (ha : AtR φ a a') (ho : h.ob.get a.block = some (.cells lo hi ty rw c)) (m : Nat) (h1 : lo ≤ a.off) (h2 : a.off + m ≤ hi) :
 ∃ l l', l.length = m ∧ (∀ j v, l[j]? = some v → c.get (a.off + j) = some v) ∧ LR φ l l' ∧ ∀ w', w'.heap = w.heap → (loadCells a' m).run P w' = .ok l'.toArray w' := by
 obtain ⟨b, d, arr, _, _, _, _, _, _, _, hc, _⟩ := H.at hs ha ho
 let l := (List.range m).map fun j => (c.get (a.off + j)).getD undef
 have kb : l.length = m := by simp [l]
 have n5 : ∀ j v, l[j]? = some v → c.get (a.off + j) = some v := by
  intro j v hj
  have hjm : j < m := by have := (List.getElem?_eq_some_iff.1 hj).1; omega
  obtain ⟨u, u', q1, _, _⟩ := hc (a.off + j) (by omega) (by omega)
  simp [l, hjm, q1] at hj
  rw [q1, hj]
 obtain ⟨l', q1, q2⟩ := H.cells (P := P) hs ha ho h1 (by omega) n5
 exact ⟨l, l', kb, n5, q1, fun w' hw => by have := q2 w' hw; rwa [kb] at this⟩
theorem HR.afG (H : HR P w0 φ h w) {f B d n : Nat} {o : AO} {o' : Obj} {h' : AH} {w' : World} (hf : φ f = none) (hB : ∀ g b d n, φ g = some (.live b d n) → b ≠ B) (bV : h.ob.im f (some o) h'.ob) (iN : h.nx ≤ h'.nx) (hnf : f < h'.nx) (N : Nat) (hN : N ≤ f)
 (ho : OR P φ d n o o') (hb : w0.heap.size ≤ B) (h1 : w'.heap[B]? = some o') (h2 : ∀ k, k ≠ B → w'.heap[k]? = w.heap[k]?) (h3 : w'.heap.size = w.heap.size) (h4 : w'.os = w.os) (h5 : w'.tape = w.tape) (h6 : w'.output = w.output) :
 HR P w0 (φ.put f (.live B d n)) h' w' ∧ Ext N φ (φ.put f (.live B d n)) := by
 have hE : Ext N φ (φ.put f (.live B d n)) := au.F0 φ _ hf hN
 have key : ∀ g b e m, (φ.put f (.live B d n)) g = some (.live b e m) → (g = f ∧ b = B ∧ e = d ∧ m = n) ∨ (g ≠ f ∧ φ g = some (.live b e m) ∧ b ≠ B) := by
  intro g b e m hg
  by_cases dm : g = f
  · subst dm; rw [au.gN] at hg; cases hg; exact .inl ⟨rfl, rfl, rfl, rfl⟩
  · rw [au.gS _ _ dm] at hg
    exact .inr ⟨dm, hg, hB g b e m hg⟩
 refine ⟨⟨?_, ?_, fun g hg => by rw [bV.2 g (by omega)]; exact H.top g (by omega), ?_, ?_, ?_⟩, hE⟩
 · intro g g' b e e' m m' n4 hg oV
   rcases key g b e m hg with ⟨a1, a2, _⟩ | ⟨a1, a2, a3⟩ <;> rcases key g' b e' m' oV with ⟨b1, b2, _⟩ | ⟨b1, b2, b3⟩
   · rw [a1, b1]
   · exact absurd a2 b3
   · exact absurd b2 a3
   · exact H.inj g g' b e e' m m' n4 a2 b2
 · intro g hg
   rw [au.gS _ _ (by omega)]
   exact H.fresh g (by omega)
 · intro g hg
   by_cases dm : g = f
   · subst dm; rw [au.gN] at hg; cases hg
   · rw [au.gS _ _ dm] at hg
     rw [bV.2 g dm]
     exact H.dead g hg
 · intro g b e m hg
   rcases key g b e m hg with ⟨rfl, rfl, rfl, rfl⟩ | ⟨a1, a2, a3⟩
   · exact ⟨o, o', bV.1, h1, ho.ext hE, fun _ => hb⟩
   · obtain ⟨o1, o2, q1, q2, q3, q4⟩ := H.obj g b e m a2
     exact ⟨o1, o2, by rw [bV.2 g a1]; exact q1, by rw [h2 b a3]; exact q2, q3.ext hE, q4⟩
 · exact ⟨h4.trans H.below.os, h5.trans H.below.tape, h6.trans H.below.output, by rw [h3]; exact H.below.size, fun k hk => by rw [h2 k (by omega)]; exact H.below.block k hk⟩
theorem afH (arr : Array Value) (l' : List Value) (off : Nat) (yb : off + l'.length ≤ arr.size) :
 (List.take off arr.toList ++ l' ++ List.drop (off + l'.length) arr.toList).toArray.size = arr.size ∧
 ∀ p : Nat, (List.take off arr.toList ++ l' ++ List.drop (off + l'.length) arr.toList).toArray[p]? = if p < off then arr[p]? else if p < off + l'.length then l'[p - off]? else arr[p]? := by
 refine ⟨by simp; omega, fun p => ?_⟩
 simp only [List.getElem?_toArray, List.getElem?_append, List.length_take, List.length_append, List.getElem?_take, List.getElem?_drop, Array.getElem?_toList, Array.length_toList]
 have hm : min off arr.size = off := by omega
 rw [hm]
 by_cases q1 : p < off
 · simp [q1, show p < off + l'.length by omega]
 · by_cases q2 : p < off + l'.length
   · simp [q1, q2]
   · simp only [q1, q2, if_false]
     congr 1; omega
theorem LR.afI {l l' : List Value} (hl : LR φ l l') (oL : ∀ v ∈ l, eH v = true) : ∀ v ∈ l', v.oneCell' = true := by
 intro v' jM
 have hlen := hl.length
 obtain ⟨j, hj⟩ := List.getElem?_of_mem jM
 have Bv : j < l.length := by rw [hlen]; exact (List.getElem?_eq_some_iff.1 hj).1
 obtain ⟨u, hu, hr⟩ := LR.get hl j _ (List.getElem?_eq_getElem Bv)
 rw [hj] at hu; cases hu
 exact hr.eH (oL _ (List.getElem_mem Bv))
theorem Vw {c : Call} {t u e' eu : TypeId} {i : TypeInfo} {z : Value} {p p' q' : Value} {n : Nat} {xs mj : List Value} (bP : ∀ {v' : Value} {w' : World}, (Builtin.append_ c.argTypes o.type #[p', q']).run P w = .ok v' w' → (execOp ρ o).run P w = .ok (.value v') w')
 (h0 : c.argTypes[0]? = some t) (h1 : c.argTypes[1]? = some u) (ht : P.underlying t = some (.slice e')) (hu : P.underlying u = some (.slice eu) ∨ P.underlying u = some .string)
 (hi : P.info? e' = some i) (hz : i.zero = some z) (vq : i.bytes ≤ 65536) (lD : z.cells.size = i.size) (eB : 0 < i.size) (H : HR P w0 φ h w) (hr : VR φ p p') (na : xs.length = n * i.size) (qv : LR φ xs mj)
 (hlen : (Builtin.lenOf q').run P w = .ok n w) (qw : ∀ w', w'.heap = w.heap → (Builtin.firstCells i.size n q').run P w' = .ok mj.toArray w')
 (e2 : jU p (xR h e' i.size n xs k) (xS h e' i.size n xs k) = true) : PR P w0 φ h ((execOp ρ o).run P w) fun v h' => k v h' = true := by
 have alV := qv.length
 have hbound : ∀ m, m ≤ 1048576 → m * i.bytes ≤ 140737488355328 := fun m hm => Nat.le_trans (Nat.mul_le_mul hm vq) (by decide)
 rcases oK e2 with ⟨l0, c0, ah, e3⟩ | ⟨a, len, cap, ah, e3⟩ <;> subst ah
 · obtain ⟨rfl, rfl, hx⟩ := hr.pU
   unfold xR at e3
   by_cases hn : n = 0
   · subst hn
     rw [j6 rfl, cond_true] at e3
     have jP : mj = [] := List.eq_nil_of_length_eq_zero (by omega)
     subst jP
     exact .same H (bP (by rw [hx]; exact GU ht hu hi h0 h1 (a := none) hlen (qw w rfl) rfl (by omega))) .lC e3
   · rw [eP hn, cond_false] at e3
     obtain ⟨xx, e4⟩ := bT e3
     have xx := Nat.le_of_ble_eq_true xx
     obtain ⟨oL, cc, aU, g1, g2, g3⟩ := rE e4
     rw [bO] at g3
     obtain ⟨nc, q1, q2⟩ := GV (P := P) (ty := o.type) ht hu hi hz h0 h1 (a := none) (sLen := 0) (sCap := 0) (olds := []) hlen qw (fun w' _ => by simp [Builtin.firstCells]) (by omega) (by rw [Nat.zero_add]; exact hbound n xx) (by omega)
     rw [← hx] at q2
     simp only [Nat.zero_add, List.nil_append] at q1 q2
     exact PR.GW (o := 0) H eB lD qv na q1 (fun j v hj => by rw [Nat.zero_add]; exact g1 j v hj) (by rw [Nat.zero_add]; exact g2) g3 (bP q2)
 · obtain ⟨a', cH, hx, hs, gL⟩ := hr.nF
   have Gw : len ≤ cH := by
    rcases gL with ⟨_, h2, h3, _⟩ | ⟨_, _, _, h3, _⟩ <;> omega
   have cB : 0 < cH → AtR φ a a' := by
    intro hp
    rcases gL with ⟨_, h2, h3, h4⟩ | ⟨_, _, _, h3, h4⟩
    · exact h4 (by omega)
    · exact (h4 hp).1
   unfold xS at e3
   by_cases hn : n = 0
   · subst hn
     rw [j6 rfl, cond_true] at e3
     have jP : mj = [] := List.eq_nil_of_length_eq_zero (by omega)
     subst jP
     refine .same H (bP (by rw [hx]; exact GU ht hu hi h0 h1 (a := some a') hlen (qw w rfl) rfl (by omega))) ?_ e3
     exact .sl _ _ _ _ _ hs gL
   · rw [eP hn, cond_false, bO] at e3
     obtain ⟨BR, e4⟩ := bT e3
     have BR : len + n ≤ 1048576 := Nat.le_of_ble_eq_true BR
     have hold : ∀ {lo du : Nat} {ty : TypeId} {l7 : Bool} {cc : NT Value}, h.ob.get a.block = some (.cells lo du ty l7 cc) → lo ≤ a.off → a.off + len * i.size ≤ du →
      ∃ l l', l.length = len * i.size ∧ (∀ j v, l[j]? = some v → cc.get (a.off + j) = some v) ∧ LR φ l l' ∧ ∀ w', w'.heap = w.heap → (Builtin.firstCells i.size len (.slice (some a') len cH)).run P w' = .ok l'.toArray w' := by
      intro lo du ty l7 cc g1 g2 g3
      by_cases ib : len = 0
      · subst ib
        exact ⟨[], [], by simp, fun j v hj => by simp at hj, .nil, fun w' _ => by simp [Builtin.firstCells, loadCells, loadCellsFrom]⟩
      · exact H.afF (P := P) hs (cB (by omega)) g1 _ g2 g3
     cases hb : Nat.ble aT cap with
     | true =>
      rw [hb, cond_true] at e4
      have hb := Nat.le_of_ble_eq_true hb
      unfold Fo at e4
      obtain ⟨GX, e5⟩ := bT e4
      have GX : cap = aT + i.size := Nat.eq_of_beq_eq_true GX
      obtain ⟨lo, du, ty, l7, cc, g1, e6⟩ := r9 e5
      obtain ⟨g2, e7⟩ := bT e6
      simp only [Bool.and_eq_true] at g2
      obtain ⟨⟨⟨⟨g2, g3⟩, g4⟩, g5⟩, g6⟩ := g2
      subst g2
      obtain rfl := Nat.eq_of_beq_eq_true g3
      have g4 := Nat.le_of_ble_eq_true g4
      have g5 : a.off + len * i.size ≤ du := Nat.le_of_ble_eq_true g5
      have oL := F7 _ g6
      obtain ⟨WK, k1, e8⟩ := mN e7
      rw [bO] at e8
      obtain ⟨c2, e9, k2, k3⟩ := F4 _ e8
      rw [bO] at e9
      obtain ⟨Lc, k4, GY⟩ := tf e9
      obtain ⟨ol, Og, m1, m2, m3, m4⟩ := hold g1 g4 g5
      have H1 := H.kill (P := P) (w := w) (h' := ⟨h.nx, WK⟩) hs k1 rfl
      have E1 : Ext h.nx φ (φ.put a.block .dead) := au.Ff φ _ _ hs
      have afJ : ∀ j v, (ol ++ xs)[j]? = some v → c2.get (a.off + j) = some v := by
       intro j v hj
       rw [List.getElem?_append] at hj
       split at hj
       · rename_i bC
         rw [k3 _ (.inl (by show a.off + j < a.off + len * i.size; omega))]
         exact m2 j v hj
       · have := k2 _ v hj
         rw [← this]; congr 1
         show a.off + j = a.off + len * i.size + (j - ol.length)
         omega
      have BT : (ol ++ xs).length = (len + n) * i.size := by rw [List.length_append, m1, na, Nat.add_mul]
      have bV : (⟨h.nx, WK⟩ : AH).ob.im h.nx (some (.cells a.off (a.off + (ol ++ xs).length) ty true c2)) Lc := by
       rw [BT]; exact k4
      have K8 : LR (φ.put a.block .dead) (ol ++ xs) (Og ++ mj) := LR.append (LR.ext E1 qv) (LR.ext E1 m3)
      by_cases nb : len + n ≤ cH
      · -- in place
        obtain ⟨sz, q1, q2, q3, q4⟩ : ∃ sz, cap = aT + sz ∧ 0 < sz ∧ len ≤ cH ∧ (0 < cH → AtR φ a a' ∧ ∀ b d n, φ a.block = some (.live b d n) → a'.off + cH * sz ≤ n) := by
         rcases gL with ⟨h2, _⟩ | h2
         · omega
         · exact h2
        have afK : sz = i.size := by omega
        subst afK
        obtain ⟨Bo, Oh⟩ := q4 (by omega)
        obtain ⟨B, d, arr, fr, v1, v2, v3, v4, v5, v6, v7, v8, v9⟩ := H.at hs Bo g1
        obtain rfl := v9 rfl
        have Oh := Oh _ _ _ v1
        have hmul : (len + n) * i.size ≤ cH * i.size := Nat.mul_le_mul nb (Nat.le_refl _)
        have alW : (len + n) * i.size = len * i.size + n * i.size := Nat.add_mul _ _ _
        have yb : a'.off + len * i.size + mj.length ≤ arr.size := by omega
        have iq := run_storeCells_at P B (a'.off + len * i.size) ty mj 0 arr w v5 (by simpa using yb) (LR.afI qv oL)
        simp only [Nat.add_zero] at iq
        obtain ⟨x1, x2⟩ := afH arr mj (a'.off + len * i.size) yb
        generalize hX : (List.take (a'.off + len * i.size) arr.toList ++ mj ++ List.drop (a'.off + len * i.size + mj.length) arr.toList).toArray = X at iq x1 x2
        have ES : a'.add (len * i.size) = ⟨B, a'.off + len * i.size, none⟩ := by rw [lJ a' v4, v2]
        have BU := GU (P := P) (ty := o.type) ht hu hi h0 h1 (a := some a') (sLen := len) (sCap := cH) hlen (qw w rfl) (by simp only []; rw [ES]; exact iq) nb
        rw [← hx] at BU
        have hor : OR P (φ.put a.block .dead) d arr.size (.cells a.off (a.off + (ol ++ xs).length) ty true c2) (.cells X ty (0, 0)) := by
         refine .cells _ _ _ _ _ _ _ _ _ (fun _ => rfl) (by omega) x1.symm fun p p1 p2 => ?_
         rw [BT] at p2
         rw [x2]
         by_cases hp : p < a.off + len * i.size
         · obtain ⟨v, v', y1, y2, y3⟩ := v7 p (by omega) (by omega)
           exact ⟨v, v', by rw [k3 p (.inl hp)]; exact y1, by rw [if_pos (by omega)]; exact y2, VR.ext E1 y3⟩
         · obtain ⟨j, rfl⟩ : ∃ j, p = a.off + len * i.size + j := ⟨p - (a.off + len * i.size), by omega⟩
           have hj : j < xs.length := by omega
           obtain ⟨y, y1, y2⟩ := LR.get qv j _ (List.getElem?_eq_getElem hj)
           refine ⟨xs[j], y, k2 j _ (List.getElem?_eq_getElem hj), ?_, VR.ext E1 y2⟩
           rw [if_neg (by omega), if_pos (by omega), show a.off + len * i.size + j - d - (a'.off + len * i.size) = j by omega]
           exact y1
        obtain ⟨r1, r2⟩ := H1.afG (P := P) (f := h.nx) (B := B) (h' := ⟨h.nx + 1, Lc⟩) (w' := w.setRow B X) (by rw [au.gS _ _ (fun e => hs (by rw [← e]; exact H.fresh _ (Nat.le_refl _)))]; exact H.fresh _ (Nat.le_refl _))
         (fun g b' d' n' hg hbB => by
          by_cases Oi : g = a.block
          · subst Oi; rw [au.gN] at hg; cases hg
          · rw [au.gS _ _ Oi] at hg
            subst hbB
            exact Oi (H.inj g a.block b' d' d n' arr.size (v8 rfl) hg v1)) bV (by simp) (by simp) h.nx (Nat.le_refl _) hor (v8 rfl) (setRow_heap w B arr X ty (0, 0) v5) (fun k hk => by
          unfold World.setRow
          simp only [Array.getElem?_modify]
          rw [if_neg (by omega)]) (by simp) rfl rfl rfl
        refine ⟨_, _, _, _, _, .inl (bP BU), GY, E1.trans r2 (Nat.le_refl _), by simp, .sl _ _ _ _ _ (by simp [au.put]) (.inr ⟨i.size, GX, eB, nb, fun _ => ⟨fun b d' m hl => ?_, fun b d' m hl => ?_⟩⟩), r1⟩
        · simp only [au.gN] at hl
          cases hl
          exact ⟨v2, v3, v4⟩
        · simp only [au.gN] at hl
          cases hl
          exact Oh
      · -- afL
        obtain ⟨nc, q1, q2⟩ := GV (P := P) (ty := o.type) ht hu hi hz h0 h1 (a := some a') (sLen := len) (sCap := cH) hlen qw m4 (by omega) (hbound _ BR) (by omega)
        rw [← hx] at q2
        have := PR.GW (P := P) (w0 := w0) (o := a.off) H1 eB lD K8 BT q1 afJ bV (by rw [GX] at GY; exact GY) (bP q2)
        obtain ⟨v', w', v, h', φ', r1, r2, r3, r4, r5, r6⟩ := this
        exact ⟨v', w', v, h', φ', r1, r2, E1.trans r3 (Nat.le_refl _), r4, r5, r6⟩
     | false =>
      rw [hb, cond_false] at e4
      have jz : cap < aT := by rw [tc] at hb; simpa using hb
      obtain ⟨AQ, Oj⟩ : cH = cap ∧ (0 < cap → AtR φ a a') := by
       rcases gL with ⟨_, h2, _, h3⟩ | ⟨sz, h2, _⟩
       · exact ⟨h2, h3⟩
       · omega
      cases kg : Nat.ble (Nat.add len n) cap with
      | true =>
       rw [kg, cond_true, bO] at e4
       have nb : len + n ≤ cap := Nat.le_of_ble_eq_true kg
       obtain ⟨lo, du, ty, cc, cc', aU, g1, g2, g3, g4, g5, g6, g7, g8⟩ := KE e4
       have Bo := (Oj (by omega)).add (len * i.size)
       obtain ⟨w', q1, q2, _⟩ := H.write (P := P) (a := ⟨a.block, a.off + len * i.size, none⟩) hs Bo g1 g2 g3 qv g4 g5 g6 g7
       have BU := GU (P := P) (ty := o.type) ht hu hi h0 h1 (a := some a') (sLen := len) (sCap := cH) hlen (qw w rfl) q1 (by omega)
       rw [← hx] at BU
       exact ⟨_, _, _, _, _, .inl (bP BU), g8, Ext.refl _ _, Nat.le_refl _, .sl _ _ _ _ _ hs (.inl ⟨jz, AQ, nb, Oj⟩), q2⟩
      | false =>
       rw [kg, cond_false] at e4
       have alX : ¬ (len + n ≤ cap) := by rw [tc] at kg; simpa using kg
       by_cases ib : len = 0
       · subst ib
         rw [j6 rfl, cond_true] at e4
         obtain ⟨oL, cc, aU, g1, g2, g3⟩ := rE e4
         rw [bO] at g3
         obtain ⟨nc, q1, q2⟩ := GV (P := P) (ty := o.type) ht hu hi hz h0 h1 (a := some a') (sLen := 0) (sCap := cH) (olds := []) hlen qw (fun w' _ => by simp [Builtin.firstCells, loadCells, loadCellsFrom]) (by omega) (hbound _ BR) (by omega)
         rw [← hx] at q2
         simp only [Nat.zero_add, List.nil_append] at q1 q2
         refine PR.GW (o := 0) H eB lD qv na q1 (fun j v hj => by rw [Nat.zero_add]; exact g1 j v hj) (by rw [Nat.zero_add]; exact g2) ?_ (bP q2)
         rw [show Nat.add 0 n = n from Nat.zero_add n] at g3
         exact g3
       · rw [eP ib, cond_false] at e4
         obtain ⟨lo, du, ty, l7, cc, ol, g1, g2, g3, g4, g5, g6⟩ := td e4
         have e5 := rC _ _ g6
         obtain ⟨oL, c2, aU, k1, k2, k3⟩ := rE e5
         rw [bO] at k3
         obtain ⟨Og, m3, m4⟩ := H.cells (P := P) hs (Oj (by omega)) g1 g2 (by rw [g4]; exact g3) g5
         rw [g4] at m4
         obtain ⟨nc, q1, q2⟩ := GV (P := P) (ty := o.type) ht hu hi hz h0 h1 (a := some a') (sLen := len) (sCap := cH) (olds := Og) hlen qw (fun w' hw => by simp only [Builtin.firstCells]; exact m4 w' hw) (by omega) (hbound _ BR) (by omega)
         rw [← hx] at q2
         have BT : (ol ++ xs).length = (len + n) * i.size := by rw [List.length_append, g4, na, Nat.add_mul]; rfl
         exact PR.GW (o := 0) H eB lD (LR.append qv m3) BT q1 (fun j v hj => by rw [Nat.zero_add]; exact k1 j v hj) (by rw [Nat.zero_add]; exact k2) k3 (bP q2)
theorem acJ {c : Call} {s x : Operand} {t u e' eu : TypeId} {i : TypeInfo} {z : Value} (ho : o.op = .call c) (hc : c.callee = .builtin .append) (ha : c.args = #[s, x]) (h0 : c.argTypes[0]? = some t) (h1 : c.argTypes[1]? = some u) (ht : P.underlying t = some (.slice e')) (hu : P.underlying u = some (.slice eu))
 (hi : P.info? e' = some i) (hz : i.zero = some z) (vq : i.bytes ≤ 65536) (lD : z.cells.size = i.size) (eB : 0 < i.size) (H : HR P w0 φ h w) (hv : LR φ vs ([s, x].map ρ)) (e : T2 e' i.size z.cells.toList vs h k = true) : PR P w0 φ h ((execOp ρ o).run P w) fun v h' => k v h' = true := by
 obtain ⟨p, q, ah, e1⟩ := gp e; clear e; subst ah; have e := e1; clear e1
 obtain ⟨p', q', hp, hr, hq⟩ := hv.two
 simp at hp; obtain ⟨e1, e2⟩ := hp; subst e1 e2
 have bP : ∀ {v' : Value} {w' : World}, (Builtin.append_ c.argTypes o.type #[ρ s, ρ x]).run P w = .ok v' w' → (execOp ρ o).run P w = .ok (.value v') w' := by
  intro v' w' hh
  rw [j8 ho hc]
  simp [builtin, ha, hh]
 obtain ⟨n, xs, mj, e1, na, qv, hlen, qw⟩ := afC (P := P) H hq e
 obtain ⟨_, e2⟩ := bT e1
 exact Vw (p := p) (p' := ρ s) (q' := ρ x) bP h0 h1 ht (.inl hu) hi hz vq lD eB H hr na qv hlen qw e2
end
end Go.Ve
namespace Go.Ve
open Go.RowKit
open Go.MapKept (run_findKey sameBits_self IsKey)
section
variable {P : Program} {w0 w : World} {φ : au} {h : AH} {ρ : Operand → Value} {o : Oper} {vs : List Value} {k : KV}
theorem abC {c : Call} {x y : Operand} (ho : o.op = .call c) (hc : c.callee = .builtin .max) (ha : c.args = #[x, y]) (H : HR P w0 φ h w) (hv : LR φ vs ([x, y].map ρ)) (e : KB vs h k = true) : PR P w0 φ h ((execOp ρ o).run P w) fun v h' => k v h' = true := by
 obtain ⟨p, q, ah, e1⟩ := gp e; clear e; subst ah; have e := e1; clear e1
 obtain ⟨p', q', hp, hr, hq⟩ := hv.two
 simp at hp; obtain ⟨e1, e2⟩ := hp; subst e1 e2
 obtain ⟨kx, a, ah, e1⟩ := l6 e; clear e; subst ah; have e := e1; clear e1
 obtain ⟨ky, b, ah, e1⟩ := l6 e; clear e; subst ah; have e := e1; clear e1
 obtain ⟨hk, e1⟩ := bT e; clear e
 obtain rfl := mK hk
 rw [xk] at e1
 have hx := hr.gg
 have hy := hq.gg
 have bP : (execOp ρ o).run P w = .ok (.value (.int kx (if b > a then b else a))) w := by
  rw [j8 ho hc]
  simp [builtin, ha, hx, hy, run_max_int2]
 refine .same H bP (.int _ _) ?_
 by_cases mL : a < b
 · rw [if_pos mL]; simpa [mL] using e1
 · rw [if_neg mL]; simpa [mL] using e1
theorem abD {c : Call} {x y : Operand} (ho : o.op = .call c) (hc : c.callee = .builtin .min) (ha : c.args = #[x, y]) (H : HR P w0 φ h w) (hv : LR φ vs ([x, y].map ρ)) (e : KC vs h k = true) : PR P w0 φ h ((execOp ρ o).run P w) fun v h' => k v h' = true := by
 obtain ⟨p, q, ah, e1⟩ := gp e; clear e; subst ah; have e := e1; clear e1
 obtain ⟨p', q', hp, hr, hq⟩ := hv.two
 simp at hp; obtain ⟨e1, e2⟩ := hp; subst e1 e2
 obtain ⟨kx, a, ah, e1⟩ := l6 e; clear e; subst ah; have e := e1; clear e1
 obtain ⟨ky, b, ah, e1⟩ := l6 e; clear e; subst ah; have e := e1; clear e1
 obtain ⟨hk, e1⟩ := bT e; clear e
 obtain rfl := mK hk
 rw [xk] at e1
 have hx := hr.gg
 have hy := hq.gg
 have bP : (execOp ρ o).run P w = .ok (.value (.int kx (if b < a then b else a))) w := by
  rw [j8 ho hc]
  simp [builtin, ha, hx, hy, run_min_int2]
 refine .same H bP (.int _ _) ?_
 by_cases mL : b < a
 · rw [if_pos mL]; simpa [mL] using e1
 · rw [if_neg mL]; simpa [mL] using e1
theorem abE {c : Call} {d s : Operand} {t e' : TypeId} {i : TypeInfo} (ho : o.op = .call c) (hc : c.callee = .builtin .copy) (ha : c.args = #[d, s]) (h0 : c.argTypes[0]? = some t) (ht : P.underlying t = some (.slice e'))
 (hi : P.info? e' = some i) (H : HR P w0 φ h w) (hv : LR φ vs ([d, s].map ρ)) (e : Sr i.size vs h k = true) : PR P w0 φ h ((execOp ρ o).run P w) fun v h' => k v h' = true := by
 obtain ⟨p, q, ah, e1⟩ := gp e; clear e; subst ah; have e := e1; clear e1
 obtain ⟨p', q', hp, hr, hq⟩ := hv.two
 simp at hp; obtain ⟨e1, e2⟩ := hp; subst e1 e2
 have bP : ∀ {v' : Value} {w' : World}, (Builtin.copy_ c.argTypes o.type #[ρ d, ρ s]).run P w = .ok v' w' → (execOp ρ o).run P w = .ok (.value v') w' := by
  intro v' w' hh
  rw [j8 ho hc]
  simp [builtin, ha, hh]
 have cB : ∀ {a a' : Addr} {len cap cH : Nat}, ry φ a a' len cap cH → 0 < len → AtR φ a a' := by
  intro a a' len cap cH gL hp
  rcases gL with ⟨_, h2, _, h4⟩ | ⟨_, _, _, h3, h4⟩
  · exact h4 (by omega)
  · exact (h4 (by omega)).1
 rcases oK e with ⟨l0, c0, ah, e3⟩ | ⟨a, len, cap, ah, e3⟩ <;> clear e <;> subst ah
 · obtain ⟨rfl, rfl, hx⟩ := hr.pU
   rcases oK e3 with ⟨l1, c1, ah, e4⟩ | ⟨b, nE, abF, ah, e4⟩ <;> subst ah
   · obtain ⟨rfl, rfl, hy⟩ := hq.pU
     exact .same H (bP (by rw [hx, hy]; simp [Builtin.copy_, h0, run_underlying ht, Builtin.lenOf, iK hi, Builtin.firstCells, goInt])) (.int _ _) e4
   · obtain ⟨b', abG, hy, _, _⟩ := hq.nF
     exact .same H (bP (by rw [hx, hy]; simp [Builtin.copy_, h0, run_underlying ht, Builtin.lenOf, iK hi, Builtin.firstCells, goInt, loadCells, loadCellsFrom])) (.int _ _) e4
 · obtain ⟨a', cH, hx, hs, gL⟩ := hr.nF
   rcases oK e3 with ⟨l1, c1, ah, e4⟩ | ⟨b, nE, abF, ah, e4⟩ <;> subst ah
   · obtain ⟨rfl, rfl, hy⟩ := hq.pU
     exact .same H (bP (by rw [hx, hy]; simp [Builtin.copy_, h0, run_underlying ht, Builtin.lenOf, iK hi, Builtin.firstCells, goInt, storeCells])) (.int _ _) e4
   · obtain ⟨b', abG, hy, rA, abH⟩ := hq.nF
     rw [bO] at e4
     have abI : (bif Nat.ble nE len then nE else len) = Nat.min nE len := by
      rw [tc]
      by_cases hle : nE ≤ len
      · simp [hle, Nat.min_eq_left hle, Nat.min_def]
      · simp [hle, Nat.min_def]
     rw [abI] at e4
     by_cases hn : Nat.min nE len = 0
     · rw [hn, j6 rfl, cond_true] at e4
       exact .same H (bP (by rw [hx, hy]; simp [Builtin.copy_, h0, run_underlying ht, Builtin.lenOf, iK hi, Builtin.firstCells, goInt, hn, loadCells, loadCellsFrom, storeCells])) (.int _ _) e4
     · rw [eP hn, cond_false] at e4
       have KD : 0 < nE := by have := Nat.min_le_left nE len; simp only [Nat.min_def] at hn this; split at hn <;> omega
       have zZ : 0 < len := by simp only [Nat.min_def] at hn; split at hn <;> omega
       obtain ⟨lo, du, ty, l7, cc, l, g1, g2, g3, g4, g5, g6⟩ := td e4
       obtain ⟨l', q1, q2⟩ := H.cells (P := P) rA (cB abH KD) g1 g2 (by rw [g4]; exact g3) g5
       obtain ⟨lo2, eY, ty2, c2, c2', aU, k1, k2, k3, k4, k5, k6, k7, k8⟩ := KE g6
       obtain ⟨w', r1, r2, _⟩ := H.write (P := P) hs (cB gL zZ) k1 k2 k3 q1 k4 k5 k6 k7
       have Ss := q2 w rfl
       rw [g4] at Ss
       have abJ : (loadCells b' (Nat.min nE len * i.size)).run P w = .ok l'.toArray w := Ss
       refine ⟨_, w', _, _, φ, .inl (bP ?_), k8, Ext.refl _ _, Nat.le_refl _, .int _ _, r2⟩
       rw [hx, hy]
       simp only [Builtin.copy_, h0, Builtin.lenOf]
       simp [run_underlying ht, iK hi, Builtin.firstCells, goInt, abJ, r1]
theorem LR.EK {φ : au} {l l' : List Value} (h : LR φ l l') : ∀ n, LR φ (iZ n l) (iZ n l')
 | 0 => .nil
 | n + 1 => LR.append (LR.EK h n) h
theorem Su : ∀ (n : Nat) {zero : List Value} {k : List Value → Bool}, xm n zero k = true → k (iZ n zero) = true
 | 0, zero, k, h => h
 | n + 1, zero, k, h => rC _ _ (Su n (show xm n zero (fun l => gM zero l k) = true from h))
theorem Sv (z : List Value) : ∀ n, (iZ n z).length = n * z.length
 | 0 => by simp [iZ]
 | n + 1 => by simp [iZ, Sv z n, Nat.add_mul]; omega
theorem Sw (z : List Value) (hz : 0 < z.length) : ∀ (n j : Nat), j < n * z.length → (iZ n z)[j]? = z[j % z.length]?
 | 0, j, hj => by omega
 | n + 1, j, hj => by
  simp only [iZ, List.getElem?_append]
  by_cases z6 : j < z.length
  · rw [if_pos z6, Nat.mod_eq_of_lt z6]
  · rw [if_neg z6, Sw z hz n _ (by rw [Nat.add_mul] at hj; omega), Nat.mod_eq_sub_mod (by omega : j ≥ z.length)]
theorem KF (z : Array Value) (hz : 0 < z.size) (n : Nat) : (madeCells z (n * z.size)).toList = iZ n z.toList := by
 apply List.ext_getElem?
 intro j
 by_cases hj : j < n * z.size
 · rw [Sw z.toList (by simpa using hz) n j (by simpa using hj)]
   have hm : j % z.size < z.size := Nat.mod_lt _ hz
   simp [madeCells, hj, hm]
 · rw [List.getElem?_eq_none (by simp [madeCells]; omega), List.getElem?_eq_none (by rw [Sv]; simpa using by omega)]
theorem abK {t e' : TypeId} {x y : Operand} {i : TypeInfo} {z : Value} (ho : o.op = .makeSlice t x y) (ht : P.underlying t = some (.slice e')) (hi : P.info? e' = some i) (hz : i.zero = some z) (eR : xn z = true) (vq : i.bytes ≤ 65536) (lD : z.cells.size = i.size) (eB : 0 < i.size)
 (H : HR P w0 φ h w) (hv : LR φ vs ([x, y].map ρ)) (e : Sx e' i.size z.cells.toList vs h k = true) : PR P w0 φ h ((execOp ρ o).run P w) fun v h' => k v h' = true := by
 obtain ⟨p, q, ah, e1⟩ := gp e; clear e; subst ah; have e := e1; clear e1
 obtain ⟨p', q', hp, hr, hq⟩ := hv.two
 simp at hp; obtain ⟨e1, e2⟩ := hp; subst e1 e2
 obtain ⟨kl, l, ah, e1⟩ := rD e; clear e; subst ah; have e := e1; clear e1
 obtain ⟨kc, c, ah, e1⟩ := rD e; clear e; subst ah; have e := e1; clear e1
 obtain ⟨g, e1⟩ := bT e
 simp only [Bool.and_eq_true] at g
 obtain ⟨⟨g1, g2⟩, g3⟩ := g
 have g1 := Nat.le_of_ble_eq_true g1
 have g2 := Nat.le_of_ble_eq_true g2
 have e2 := Su _ e1
 obtain ⟨oL, cc, aU, k1, k2, k3⟩ := rE e2
 have hb : (i.bytes : Int) * (Int.ofNat c) ≤ 281474976710656 := by
  have : i.bytes * c ≤ 65536 * 65536 := Nat.mul_le_mul vq g2
  simp only [Int.ofNat_eq_natCast]
  rw [← Int.natCast_mul]; omega
 have bP := run_make (P := P) w t e' i z ht hi hz kl kc (Int.ofNat l) (Int.ofNat c) (by simp) (by simp only [Int.ofNat_eq_natCast]; omega) hb (by simp only [Int.ofNat_eq_natCast]; omega)
 have hm : madeCells z.cells (c * i.size) = (iZ c z.cells.toList).toArray := by
  apply Array.ext'
  rw [← lD, KF z.cells (by omega) c]
 have hc : (Int.ofNat c).toNat = c := rfl
 have hl : (Int.ofNat l).toNat = l := rfl
 rw [hc, hl, hm] at bP
 obtain ⟨r1, r2⟩ := PR.newRow H (LR.EK (VR.cells (oM (φ := φ) eR)) c) k1 k2
 refine ⟨.slice (some ⟨w.heap.size, 0, none⟩) l c, _, _, _, _, .inl (by simp only [execOp, ho, hr.gg, hq.gg]; simp only [Sem.run_bind, bP, Result.andThen_ok, Sem.run_pure]), k3, r2, by simp, .sl _ _ _ _ _ (by simp [au.put]) (.inl ⟨by unfold aT; omega, rfl, g1, fun _ b d n hl => ?_⟩), r1⟩
 simp only [au.gN] at hl
 cases hl
 exact ⟨rfl, rfl, rfl⟩
theorem xo {d : TypeDesc} {kc : Nat} {a b : Value} {r : Bool} (hk : ja d = some kc) (he : kR kc a b = some r) : Instr.sameNow d a b = some r := by
 unfold kR at he
 split at he <;> first | (cases he; done) | skip
 · rename_i k1 x k2 y
   cases dG : eS k1 k2 with
   | false => rw [dG] at he; cases he
   | true =>
    rw [dG] at he
    simp only [cond_true, Option.some.injEq] at he
    obtain rfl := mK dG
    unfold ja at hk
    split at hk <;> first | (cases hk; done) | skip
    subst he
    simp [Instr.sameNow, rF]
 · rename_i x y
   simp only [Option.some.injEq] at he
   unfold ja at hk
   split at hk <;> first | (cases hk; done) | skip
   subst he
   cases x <;> cases y <;> rfl
 · rename_i x y
   simp only [Option.some.injEq] at he
   unfold ja at hk
   split at hk <;> first | (cases hk; done) | skip
   subst he
   simp only [Instr.sameNow, eqStr, beq_toListBytes]
theorem Sy {kc : Nat} {d : TypeDesc} (hk : ja d = some kc) : ∀ {es : List (Value × Value × Nat)} {cq : List MapEntry} {x x' : Value} {kk : Option Value → Bool} (i : Nat), ER φ es cq → VR φ x x' → vr kc es x kk = true →
 (kk none = true ∧ Instr.findNow d x' cq i = some none) ∨ ∃ v v' j, kk (some v) = true ∧ VR φ v v' ∧ Instr.findNow d x' cq i = some (some (j, v'))
 | _, _, x, x', kk, i, .nil, hx, h => .inl ⟨h, rfl⟩
 | _, _, x, x', kk, i, .cons a v b e l l' ha hv hb hl, hx, h => by
  unfold vr at h
  split at h
  · rename_i he
    obtain ⟨rfl, h2⟩ := z7 hx ha he
    exact .inr ⟨v, e.val, i, h, hv, by simp [Instr.findNow, h2, xo hk he]⟩
  · rename_i he
    obtain ⟨h1, h2⟩ := z7 hx ha he
    rcases Sy hk (i + 1) hl hx h with ⟨q1, q2⟩ | ⟨v1, v2, j, q1, q2, q3⟩
    · exact .inl ⟨q1, by subst h1; simp [Instr.findNow, h2, xo hk he, q2]⟩
    · exact .inr ⟨v1, v2, j, q1, q2, by subst h1; simp [Instr.findNow, h2, xo hk he, q3]⟩
  · cases h
theorem Sz {kc : Nat} {d : TypeDesc} {t : TypeId} {x : Value} {b : Bool} (hu : P.underlying t = some d) (hk : ja d = some kc) : (Instr.checkKey b 10000 t x).run P w = .ok () w := by
 rw [show (10000 : Nat) = 9999 + 1 from rfl]
 unfold Instr.checkKey
 simp only [Sem.run_bind, run_underlying hu, Result.andThen_ok]
 unfold ja at hk
 split at hk <;> first | (cases hk; done) | skip
 all_goals (cases x <;> rfl)
theorem abL {t kt e' : TypeId} {m x : Operand} {kc : Nat} {z : Value} {ok : Bool} (ho : o.op = .lookup t m x ok) (ht : P.underlying t = some (.map kt e')) (hk : (P.underlying kt).bind ja = some kc) (hz : zeroOf P e' = some z)
 (H : HR P w0 φ h w) (hv : LR φ vs ([m, x].map ρ)) (e : KG kc z ok vs h k = true) : PR P w0 φ h ((execOp ρ o).run P w) fun v h' => k v h' = true := by
 obtain ⟨i, hi, hz, eR⟩ := nH hz
 obtain ⟨d, hd, z8⟩ : ∃ d, P.underlying kt = some d ∧ ja d = some kc := by
  cases hu : P.underlying kt with
  | none => simp [hu] at hk
  | some d => exact ⟨d, rfl, by simpa [hu] using hk⟩
 obtain ⟨p, q, ah, e1⟩ := gp e; clear e; subst ah; have e := e1; clear e1
 obtain ⟨p', q', hp, hr, hq⟩ := hv.two
 simp at hp; obtain ⟨e1, e2⟩ := hp; subst e1 e2
 obtain ⟨_, e1⟩ := bT e
 have fin : ∀ {ov : Option Value} {es : Array MapEntry}, EL z ok h k ov = true →
  ((ρ m = .map none ∧ es = #[]) ∨ ∃ r cl, ρ m = .map (some r) ∧ w.heap[r]? = some (.map es cl)) →
  ((ov = none ∧ Instr.findNow d (ρ x) es.toList 0 = some none) ∨ ∃ v v' j, ov = some v ∧ VR φ v v' ∧ Instr.findNow d (ρ x) es.toList 0 = some (some (j, v'))) → PR P w0 φ h ((execOp ρ o).run P w) fun v h' => k v h' = true := by
  intro ov es q1 q2 q3
  have rG : ∀ b, (Instr.checkKey b 10000 kt (ρ x)).run P w = .ok () w := fun b => Sz hd z8
  rcases q3 with ⟨rfl, q3⟩ | ⟨v, v', j, rfl, q4, q3⟩
  · have hf := run_findKey (P := P) (w := w) hd q3
    have bP : (execOp ρ o).run P w = .ok (.value (if ok = true then .tuple #[z, .bool false] else z)) w := by
     rcases q2 with ⟨q2, rfl⟩ | ⟨r, cl, q2, q5⟩
     · simp only [execOp, ho, Instr.lookup, Sem.run_bind, run_underlying ht, Result.andThen_ok, q2]
       simp [rG, hf, pV hi hz]
     · simp only [execOp, ho, Instr.lookup, Sem.run_bind, run_underlying ht, Result.andThen_ok, q2]
       simp [getObj, Sem.run, q5, rG, hf, pV hi hz]
    cases ok with
    | true => exact .same H bP (.fD _ _ (.cons _ _ _ _ (oM eR) (.cons _ _ _ _ (.bool _) .nil))) q1
    | false => exact .same H bP (oM eR) q1
  · have hf := run_findKey (P := P) (w := w) hd q3
    have bP : (execOp ρ o).run P w = .ok (.value (if ok = true then .tuple #[v', .bool true] else v')) w := by
     rcases q2 with ⟨q2, rfl⟩ | ⟨r, cl, q2, q5⟩
     · simp only [execOp, ho, Instr.lookup, Sem.run_bind, run_underlying ht, Result.andThen_ok, q2]
       simp [rG, hf]
     · simp only [execOp, ho, Instr.lookup, Sem.run_bind, run_underlying ht, Result.andThen_ok, q2]
       simp [getObj, Sem.run, q5, rG, hf]
    cases ok with
    | true => exact .same H bP (.fD _ _ (.cons _ _ _ _ q4 (.cons _ _ _ _ (.bool _) .nil))) q1
    | false => exact .same H bP q4 q1
 rcases EM e1 with ⟨ah, e2⟩ | ⟨r, ah, e2⟩ <;> subst ah
 · exact fin (es := #[]) e2 (.inl ⟨hr.KH, rfl⟩) (.inl ⟨rfl, rfl⟩)
 · obtain ⟨r', hx, hs, mM⟩ := hr.EN
   obtain ⟨es, cl, g1, g2⟩ := vt e2
   obtain ⟨dd, n, cq, _, m2, m3, _⟩ := H.KI hs mM g1
   rcases Sy z8 0 m3 hq g2 with ⟨q1, q2⟩ | ⟨v1, v2, j, q1, q2, q3⟩
   · exact fin q1 (.inr ⟨r', cl, hx, m2⟩) (.inl ⟨rfl, q2⟩)
   · exact fin q1 (.inr ⟨r', cl, hx, m2⟩) (.inr ⟨v1, v2, j, rfl, q2, q3⟩)
end
end Go.Ve
namespace Go.Ve
open Go.RowKit
open Go.MapKept (run_findKey bytes_beq)
section
variable {P : Program} {w0 w : World} {φ : au} {h : AH} {ρ : Operand → Value} {o : Oper} {vs : List Value} {k : KV}
theorem abM {kc : Nat} {a b : Value} (he : kR kc a b = some true) : a = b := by
 unfold kR at he
 split at he <;> first | (cases he; done) | skip
 · rename_i k1 x k2 y
   cases dG : eS k1 k2 with
   | false => rw [dG] at he; cases he
   | true =>
    rw [dG] at he
    simp only [cond_true, Option.some.injEq, rF, beq_iff_eq] at he
    rw [mK dG, he]
 · rename_i x y
   cases x <;> cases y <;> first | rfl | (simp at he)
 · rename_i x y
   simp only [Option.some.injEq, eqStr] at he
   rw [← beq_toListBytes] at he
   rw [(bytes_beq x y).1 he]
theorem abN {kc : Nat} {x x' : Value} (hx : VR φ x x') (ho : Aa kc x = true) : Instr.sameBits 10000 x' x' = true := by
 rw [show (10000 : Nat) = 9999 + 1 from rfl]
 unfold Aa at ho
 split at ho <;> first | (cases ho; done) | skip
 · rw [hx.gg]; simp [Instr.sameBits]
 · rw [hx.pT]; simp [Instr.sameBits]
 · rw [hx.jb]; simp [Instr.sameBits, bytes_beq]
theorem SA {kc : Nat} {d : TypeDesc} (hk : ja d = some kc) : ∀ {es : List (Value × Value × Nat)} {cq : List MapEntry} {x x' y y' : Value} {cl : Nat} {kk : List (Value × Value × Nat) → Nat → Bool} (i : Nat), ER φ es cq → VR φ x x' → VR φ y y' → nI kc es x y cl kk = true →
 ∃ xp xq, kk xp xq = true ∧ ((Instr.findNow d x' cq i = some none ∧ xq = cl + 1 ∧ ER φ xp (cq ++ [{ key := x', val := y', born := cl }])) ∨
  ∃ j v' e, Instr.findNow d x' cq i = some (some (i + j, v')) ∧ xq = cl ∧ cq[j]? = some e ∧ e.key = x' ∧ ER φ xp (cq.modify j fun e => { e with key := x', val := y' }))
 | _, _, x, x', y, y', cl, kk, i, .nil, hx, hy, h => by
  simp only [nI, bO] at h
  exact ⟨_, _, h, .inl ⟨rfl, rfl, .cons _ _ _ _ _ _ hx hy rfl .nil⟩⟩
 | _, _, x, x', y, y', cl, kk, i, .cons a v b e l l' ha hv hb hl, hx, hy, h => by
  unfold nI at h
  split at h
  · rename_i he
    obtain ⟨h1, h2⟩ := z7 hx ha he
    have hxa := abM he
    refine ⟨_, _, h, .inr ⟨0, e.val, e, ?_, rfl, rfl, by rw [h2, h1, hxa], ?_⟩⟩
    · subst h1; simp [Instr.findNow, h2, xo hk he]
    · simp only [List.modify_zero_cons]
      exact .cons _ _ _ _ _ _ hx hy hb hl
  · rename_i he
    obtain ⟨h1, h2⟩ := z7 hx ha he
    obtain ⟨xp, xq, q1, q2⟩ := SA hk (i + 1) hl hx hy h
    rcases q2 with ⟨q2, q3, q4⟩ | ⟨j, v', e2, q2, q3, q4, q5, q6⟩
    · refine ⟨_, _, q1, .inl ⟨?_, q3, .cons _ _ _ _ _ _ ha hv hb q4⟩⟩
      subst h1; simp [Instr.findNow, h2, xo hk he, q2]
    · refine ⟨_, _, q1, .inr ⟨j + 1, v', e2, ?_, q3, by simpa using q4, q5, ?_⟩⟩
      · subst h1; simp [Instr.findNow, h2, xo hk he, q2]; omega
      · simp only [List.modify_succ_cons]
        exact .cons _ _ _ _ _ _ ha hv hb q6
  · cases h
theorem SB {t kt e' : TypeId} {m x y : Operand} {kc : Nat} (ho : o.op = .mapUpdate t m x y ∨ o.op = .insert t m x y) (ht : P.underlying t = some (.map kt e')) (hk : (P.underlying kt).bind ja = some kc)
 (H : HR P w0 φ h w) (hv : LR φ vs ([m, x, y].map ρ)) (e : SC kc vs h k = true) : PR P w0 φ h ((execOp ρ o).run P w) fun v h' => k v h' = true := by
 obtain ⟨d, hd, z8⟩ : ∃ d, P.underlying kt = some d ∧ ja d = some kc := by
  cases hu : P.underlying kt with
  | none => simp [hu] at hk
  | some d => exact ⟨d, rfl, by simpa [hu] using hk⟩
 obtain ⟨p, q, r, ah, e1⟩ := SD e; clear e; subst ah; have e := e1; clear e1
 obtain ⟨p', q', r', hp, hr, hq, hy⟩ := hv.three
 simp at hp; obtain ⟨e1, e2, e3⟩ := hp; subst e1 e2 e3
 obtain ⟨hko, e1⟩ := bT e
 have abO := abN hq hko
 have bP : ∀ {w' : World}, (Instr.mapUpdate t (ρ m) (ρ x) (ρ y)).run P w = .ok () w' → (execOp ρ o).run P w = .ok .skip w' := by
  intro w' hh
  rcases ho with ho | ho <;> simp [execOp, ho, hh]
 rcases EM e1 with ⟨ah, e2⟩ | ⟨r0, ah, e2⟩ <;> subst ah
 · cases e2
 · obtain ⟨rb, hx, hs, mM⟩ := hr.EN
   obtain ⟨es, cl, g1, g2⟩ := vt e2
   obtain ⟨dd, n, cq, m1, m2, m3, m4⟩ := H.KI hs mM g1
   obtain ⟨xp, xq, q1, q2⟩ := SA z8 0 m3 hq hy g2
   obtain ⟨aU, k1, k2⟩ := mN q1
   have rG : (Instr.checkKey false 10000 kt (ρ x)).run P w = .ok () w := Sz hd z8
   have bC : rb < w.heap.size := (Array.getElem?_eq_some_iff.1 m2).1
   have fin : ∀ {es3 : Array MapEntry}, ER φ xp es3.toList → (Instr.mapUpdate t (ρ m) (ρ x) (ρ y)).run P w = .ok () { w with heap := w.heap.setIfInBounds rb (.map es3 xq) } → PR P w0 φ h ((execOp ρ o).run P w) fun v h' => k v h' = true := by
    intro es3 q3 q4
    refine ⟨undef, _, undef, _, φ, .inr ⟨bP q4, rfl⟩, k2, Ext.refl _ _, Nat.le_refl _, VR.undef _, ?_⟩
    exact H.iL m1 k1 rfl (.map _ _ _ _ _ q3) m4 (by simp [bC]) (fun k hk => by simp [Ne.symm hk]) (by simp) rfl rfl rfl
   rcases q2 with ⟨q2, rfl, q4⟩ | ⟨j, v', e2, q2, rfl, q4, q5, q6⟩
   · refine fin (es3 := cq.push { key := ρ x, val := ρ y, born := cl }) (by simpa using q4) ?_
     have hf := run_findKey (P := P) (w := w) hd q2
     simp [Instr.mapUpdate, run_underlying ht, hx, getObj, setObj, Sem.run, m2, rG, hf]
   · refine fin (es3 := cq.modify j fun e => { e with key := ρ x, val := ρ y }) (by simpa using q6) ?_
     simp only [Nat.zero_add] at q2
     have hf := run_findKey (P := P) (w := w) hd q2
     have EO : cq[j]? = some e2 := by simpa using q4
     have iq : (Instr.keyThatStays (ρ x) (ρ x)).run P w = .ok (ρ x) w := by simp [Instr.keyThatStays, abO]
     simp [Instr.mapUpdate, run_underlying ht, hx, getObj, setObj, Sem.run, m2, rG, hf, EO, q5, iq]
theorem abP {x : Operand} {xt t : TypeId} {d : TypeDesc} {z : Value} (ho : o.op = .typeAssert x xt t true) (hu : P.underlying t = some d) (hd : ∀ m, d ≠ .interface m) (hz : zeroOf P t = some z) (H : HR P w0 φ h w) (hv : LR φ vs ([x].map ρ)) (e : EP t z vs h k = true) : PR P w0 φ h ((execOp ρ o).run P w) fun v h' => k v h' = true := by
 obtain ⟨i, hi, hz, eR⟩ := nH hz
 obtain ⟨p, ah, e1⟩ := ew e; clear e; subst ah; have e := e1; clear e1
 obtain ⟨p', hp, hr⟩ := hv.one
 simp at hp; subst hp
 unfold KJ at e
 have vu : ∀ v : Value, (execOp ρ o).run P w = ((Instr.typeAssert (ρ x) xt t true).run P w).andThen (fun a w' => .ok (.value a) w') := by intro _; simp [execOp, ho]
 split at e
 · have hx : ρ x = .nilIface := by generalize ρ x = X at hr; cases hr; rfl
   refine .same H (v' := .tuple #[z, .bool false]) ?_ (.fD _ _ (.cons _ _ _ _ (oM eR) (.cons _ _ _ _ (.bool _) .nil))) e
   rw [vu undef, hx]
   simp only [Instr.typeAssert, Sem.run_bind, run_underlying hu, Result.andThen_ok]
   cases d <;> first | (exact absurd rfl (hd _)) | simp [pV hi hz]
 · rename_i t' v
   obtain ⟨v', hx, KK⟩ : ∃ v', ρ x = .iface t' v' ∧ VR φ v v' := by generalize ρ x = X at hr; cases hr with | iface _ _ v' h => exact ⟨v', rfl, h⟩
   by_cases KL : t' = t
   · subst KL
     rw [j6 rfl, cond_true] at e
     refine .same H (v' := .tuple #[v', .bool true]) ?_ (.fD _ _ (.cons _ _ _ _ KK (.cons _ _ _ _ (.bool _) .nil))) e
     rw [vu undef, hx]
     simp only [Instr.typeAssert, Sem.run_bind, run_underlying hu, Result.andThen_ok]
     cases d <;> first | (exact absurd rfl (hd _)) | simp
   · rw [eP KL, cond_false] at e
     refine .same H (v' := .tuple #[z, .bool false]) ?_ (.fD _ _ (.cons _ _ _ _ (oM eR) (.cons _ _ _ _ (.bool _) .nil))) e
     rw [vu undef, hx]
     simp only [Instr.typeAssert, Sem.run_bind, run_underlying hu, Result.andThen_ok]
     cases d <;> first | (exact absurd rfl (hd _)) | simp [KL, pV hi hz]
 · cases e
theorem abQ {x : Operand} {t : TypeId} (ho : o.op = .range t x) (hu : P.underlying t = some .string) (H : HR P w0 φ h w) (hv : LR φ vs ([x].map ρ)) (e : SE vs h k = true) : PR P w0 φ h ((execOp ρ o).run P w) fun v h' => k v h' = true := by
 obtain ⟨p, ah, e1⟩ := ew e; clear e; subst ah; have e := e1; clear e1
 obtain ⟨p', hp, hr⟩ := hv.one
 simp at hp; subst hp
 obtain ⟨s, ah, e1⟩ := j9 e; clear e; subst ah; have e := e1; clear e1
 obtain ⟨aU, h1, h2⟩ := tf e
 obtain ⟨g1, g2⟩ := H.newAt (f := h.nx) (o := .l5 s 0) (o' := .stringIter s 0) (d := 0) (n := 0) (h' := ⟨h.nx + 1, aU⟩) (H.fresh _ (Nat.le_refl _)) h1.1 (fun g hg _ => h1.2 g hg) (fun g hg => H.fresh g (by simp only at hg; omega)) (fun g hg => by rw [h1.2 g (by simp only at hg; omega)]; exact H.top g (by simp only at hg; omega)) (by simp) _ (Nat.le_refl _) (.l5 _ _ _)
 refine ⟨_, _, _, _, _, .inl ?_, h2, g2, by simp, PR.xr, g1⟩
 simp only [execOp, ho, hr.jb]
 simp [run_range_string w t s hu, World.iter]
theorem abR {x : Operand} (ho : o.op = .next x true) (H : HR P w0 φ h w) (hv : LR φ vs ([x].map ρ)) (e : SF vs h k = true) : PR P w0 φ h ((execOp ρ o).run P w) fun v h' => k v h' = true := by
 obtain ⟨p, ah, e1⟩ := ew e; clear e; subst ah; have e := e1; clear e1
 obtain ⟨p', hp, hr⟩ := hv.one
 simp at hp; subst hp
 obtain ⟨a, ah, e1⟩ := kS e; clear e; subst ah; have e := e1; clear e1
 obtain ⟨a', hx, hs, cB⟩ := hr.jy
 obtain ⟨h0, e1⟩ := bT e
 have h0 := Nat.eq_of_beq_eq_true h0
 obtain ⟨s, pos, g1, g2⟩ := abS e1
 obtain ⟨b, d, n, o', m1, m2, m3, m4⟩ := H.live hs g1
 obtain ⟨q1, q2, q3⟩ := cB b d n m1
 cases m3
 have ES : a' = ⟨b, 0, none⟩ := by cases a'; simp_all
 have bC : b < w.heap.size := (Array.getElem?_eq_some_iff.1 m2).1
 unfold SG at g2
 split at g2
 · rename_i c hc
   have eZ : pos < s.size := by
    have : pos < s.data.toList.length := (List.getElem?_eq_some_iff.1 hc).1
    simpa using this
   have fin : ∀ (c n : Nat) (aU : NT AO), Utf8.decode s pos = (c, n) → h.ob.im a.block (some (.l5 s (pos + n))) aU → k (.tuple #[.bool true, .int .i64 (Int.ofNat pos), .int .i32 (Int.ofNat c)]) ⟨h.nx, aU⟩ = true →
    PR P w0 φ h ((execOp ρ o).run P w) fun v h' => k v h' = true := fun c n aU KM k1 k2 => by
    refine ⟨.tuple #[.bool true, .int .i64 (Int.ofNat pos), .int .i32 (Int.ofNat c)], { w with heap := w.heap.setIfInBounds b (.stringIter s (pos + n)) }, _, _, φ, .inl ?_, k2, Ext.refl _ _, Nat.le_refl _, .fD _ _ (.cons _ _ _ _ (.bool _) (.cons _ _ _ _ (.int _ _) (.cons _ _ _ _ (.int _ _) .nil))), ?_⟩
    · simp [execOp, ho, hx, ES, Instr.next, getObj, setObj, Sem.run, m2, eZ, KM, goInt]
    · exact H.iL m1 k1 rfl (.l5 _ _ _) (m4 rfl) (by simp [bC]) (fun k hk => by simp [Ne.symm hk]) (by simp) rfl rfl rfl
   cases Ab : Nat.ble (Nat.succ c.toNat) 128 with
   | true =>
    rw [Ab] at g2
    have Ab : c.toNat < 128 := Nat.le_of_ble_eq_true Ab
    have g3 : fN (Nat.succ pos) (fun pos' => fP h a.block (some (.l5 s pos')) fun h => fN c.toNat fun n => k (.tuple ⟨[.bool true, .int .i64 (.ofNat pos), .int .i32 (.ofNat n)]⟩) h) = true := g2
    rw [bO] at g3
    obtain ⟨aU, k1, k2⟩ := mN g3
    rw [bO] at k2
    have ei : s[pos]'eZ = c := by
     have h3 : s.data.toList[pos]'(by simpa using eZ) = c := (List.getElem?_eq_some_iff.1 hc).2
     have h4 : s.data[pos]'eZ = c := by simpa using h3
     exact h4
    have KM : Utf8.decode s pos = (c.toNat, 1) := by
     rw [decode_ascii s pos eZ (by rw [ei]; exact Ab), ei]
    exact fin _ _ aU KM k1 k2
   | false =>
    rw [Ab] at g2
    have g3 : fP h a.block (some (.l5 s (pos + (Utf8.decode s pos).2))) (fun h => k (.tuple ⟨[.bool true, .int .i64 (.ofNat pos), .int .i32 (.ofNat (Utf8.decode s pos).1)]⟩) h) = true := g2
    obtain ⟨aU, k1, k2⟩ := mN g3
    exact fin _ _ aU rfl k1 k2
 · rename_i hc
   have eZ : ¬ pos < s.size := by
    have := List.getElem?_eq_none_iff.1 hc
    simp at this
    have h2 : s.size = s.data.size := rfl
    omega
   refine .same H (v' := .tuple #[.bool false]) ?_ (.fD _ _ (.cons _ _ _ _ (.bool _) .nil)) g2
   simp [execOp, ho, hx, ES, Instr.next, getObj, setObj, Sem.run, m2, eZ]
end
end Go.Ve
namespace Go.Ve
open Go.RowKit
section
variable {P : Program} {w0 w : World} {φ : au} {h : AH} {ρ : Operand → Value} {o : Oper} {vs : List Value} {k : KV}
theorem SH (off : Nat) : ∀ (l : List Value) (n : Nat) (cells : Array Value), off + n + l.length ≤ cells.size →
 ((l.zipIdx n).foldl (fun (cs : Array Value) (p : Value × Nat) => cs.setIfInBounds (off + p.2) p.1) cells).toList = cells.toList.take (off + n) ++ l ++ cells.toList.drop (off + n + l.length)
 | [], n, cells, _ => by simp
 | v :: l, n, cells, h => by
  simp only [List.length_cons] at h
  simp only [List.zipIdx_cons, List.foldl_cons]
  rw [SH off l (n + 1) _ (by simp; omega)]
  simp only [Array.toList_setIfInBounds]
  have := list_seg_step cells.toList (off + n) v l (by simp; omega)
  simp only [List.length_cons]
  rw [← this]
  congr 2
theorem SI (off : Nat) (v : Value) (cells : Array Value) (h : off + v.cells.size ≤ cells.size) :
 (v.cells.zipIdx.foldl (fun cs (c, j) => cs.setIfInBounds (off + j) c) cells) = (cells.toList.take off ++ v.cells.toList ++ cells.toList.drop (off + v.cells.toList.length)).toArray := by
 apply Array.ext'
 rw [← Array.foldl_toList, Array.toList_zipIdx]
 have := SH off v.cells.toList 0 cells (by simpa using h)
 simpa using this
theorem ET {place : Nat → Option (Nat × Nat)} : ∀ {ps : List (Nat × Nat)} {parts : List (Nat × Value)} {l l' vs : List Value} {kk : List Value → Bool}, iM l ps vs kk = true → LR φ l l' → LR φ vs (parts.map (·.2)) → parts.map (fun p => place p.1) = ps.map some →
 ∃ r r', kk r = true ∧ LR φ r r' ∧ Instr.fill place l'.toArray parts = some r'.toArray
 | [], parts, l, l', vs, kk, h, hl, hv, hp => by
  have KN : parts = [] := by cases parts with | nil => rfl | cons _ _ => simp at hp
  subst KN
  cases vs with
  | cons _ _ => cases h
  | nil => exact ⟨l, l', h, hl, rfl⟩
 | (off, sz) :: ps, parts, l, l', vs, kk, h, hl, hv, hp => by
  cases parts with
  | nil => simp at hp
  | cons part parts =>
   obtain ⟨i, v'⟩ := part
   simp only [List.map_cons, List.cons.injEq] at hp
   cases vs with
   | nil => cases h
   | cons v vs =>
    simp only [List.map_cons] at hv
    cases hv with | cons _ _ _ _ rH mO =>
    have h' : (bif ia (cellsOf v) sz then nJ l off (cellsOf v) fun l' => iM l' ps vs kk else false) = true := h
    cases hle : ia (cellsOf v) sz with
    | false => rw [hle] at h'; cases h'
    | true =>
     rw [hle, cond_true] at h'
     have eB := EU _ hle
     rw [xu] at eB h'
     obtain ⟨h1, h2⟩ := SJ l h'
     have hc := VR.cells rH
     have jz := hc.length
     have kb := hl.length
     have abT : LR φ (l.take off ++ v.cells.toList ++ l.drop (off + v.cells.toList.length)) (l'.take off ++ v'.cells.toList ++ l'.drop (off + v'.cells.toList.length)) := by
      rw [← jz]
      exact LR.append (hl.drop _) (LR.append hc (hl.take off))
     obtain ⟨r, r', q1, q2, q3⟩ := ET h1 abT mO hp.2
     refine ⟨r, r', q1, q2, ?_⟩
     have xv : v'.cells.size = sz := by rw [← eB, jz]; simp
     have rA : ¬ (off + v'.cells.size > l'.toArray.size) := by simp; rw [xv]; omega
     simp only [Instr.fill, hp.1]
     rw [if_neg (by simp [xv]; simp at rA; rw [xv] at rA; omega)]
     rw [SI off v' l'.toArray (by simp at rA; simp; omega)]
     exact q3
def xw : List Value → List Value
 | [] => []
 | v :: vs => v.cells.toList ++ xw vs
theorem SK : ∀ {ss : List Nat} {vs : List Value} {kk : List Value → Bool}, vv ss vs kk = true → kk (xw vs) = true ∧ vs.map (fun v => v.cells.size) = ss
 | [], vs, kk, h => by
  obtain ⟨rfl, h⟩ := tg (show a0 vs (kk []) = true from h)
  exact ⟨h, rfl⟩
 | n :: ss, vs, kk, h => by
  cases vs with
  | nil => cases h
  | cons v vs =>
   obtain ⟨h1, h2⟩ := bT (show iff (ia (cellsOf v) n) (vv ss vs fun l => gM (cellsOf v) l kk) = true from h)
   obtain ⟨h3, h4⟩ := SK h2
   have := rC _ _ h3
   rw [xu] at this
   have hs := EU _ h1
   rw [xu] at hs
   exact ⟨this, by simp [h4]; simpa using hs⟩
theorem SL : ∀ {vs gO : List Value}, LR φ vs gO → LR φ (xw vs) (xw gO)
 | _, _, .nil => .nil
 | _, _, .cons _ _ _ _ h hl => LR.append (SL hl) (VR.cells h)
theorem LR.vo : ∀ {vs gO : List Value}, LR φ vs gO → vs.map (fun v => v.cells.size) = gO.map (fun v => v.cells.size)
 | _, _, .nil => rfl
 | _, _, .cons _ _ _ _ h hl => by
  have := (VR.cells h).length
  simp only [List.map_cons, LR.vo hl]
  congr 1
theorem SM {place : Nat → Option (Nat × Nat)} : ∀ {ps : List (Nat × Nat)} {parts : List (Nat × Value)} {n m : Nat} {done rest : List Value}, th n ps m = true → parts.map (fun p => place p.1) = ps.map some → parts.map (fun p => p.2.cells.size) = ps.map (·.2) →
 done.length = n → n + rest.length = m → Instr.fill place (done ++ rest).toArray parts = some (done ++ xw (parts.map (·.2))).toArray
 | [], parts, n, m, done, rest, hc, hp, hs, hd, hr => by
  have KN : parts = [] := by cases parts with | nil => rfl | cons _ _ => simp at hp
  subst KN
  simp only [th, beq_iff_eq] at hc
  have : rest = [] := List.eq_nil_of_length_eq_zero (by omega)
  subst this
  rfl
 | (off, sz) :: ps, parts, n, m, done, rest, hc, hp, hs, hd, hr => by
  cases parts with
  | nil => simp at hp
  | cons part parts =>
   obtain ⟨i, v'⟩ := part
   simp only [List.map_cons, List.cons.injEq] at hp hs
   simp only [th, Bool.and_eq_true, beq_iff_eq] at hc
   obtain ⟨rfl, hc⟩ := hc
   have hm : n + sz ≤ m := by
    have : ∀ (ps : List (Nat × Nat)) (n m : Nat), th n ps m = true → n ≤ m := by
     intro ps
     induction ps with
     | nil => intro n m h; simp only [th, beq_iff_eq] at h; omega
     | cons p ps ih => intro n m h; obtain ⟨a, b⟩ := p; simp only [th, Bool.and_eq_true, beq_iff_eq] at h; have := ih _ _ h.2; omega
    exact this _ _ _ hc
   have xv : v'.cells.size = sz := hs.1
   simp only [Instr.fill, hp.1]
   rw [if_neg (by simp [xv]; omega)]
   rw [SI n v' _ (by simp; omega)]
   have e1 : List.take n (done ++ rest).toArray.toList ++ v'.cells.toList ++ List.drop (n + v'.cells.toList.length) (done ++ rest).toArray.toList = (done ++ v'.cells.toList) ++ rest.drop sz := by
    have nK : v'.cells.toList.length = sz := by simpa using xv
    simp only [nK]
    rw [List.take_append_of_le_length (by omega), List.take_of_length_le (by omega)]
    congr 1
    rw [List.drop_append]
    simp [hd]
   rw [e1]
   have := SM (place := place) (done := done ++ v'.cells.toList) (rest := rest.drop sz) hc hp.2 hs.2 (by simp; omega) (by simp; omega)
   rw [this]
   simp [xw, List.append_assoc]
theorem run_places : ∀ (fs : List Field), (∀ f ∈ fs, (ej P f.type).isSome = true) → (fs.mapM fun f => (do pure (f.offset, ← sizeOf f.type) : Sem (Nat × Nat))).run P w = .ok (fs.map fun f => (f.offset, (ej P f.type).getD 0)) w
 | [], _ => by simp
 | f :: fs, h => by
  obtain ⟨s, hs⟩ := Option.isSome_iff_exists.1 (h f (by simp))
  obtain ⟨i, hi, rfl⟩ := kT hs
  have ih := run_places fs (fun g hg => h g (by simp [hg]))
  rw [List.mapM_cons]
  simp only [Sem.run_bind, iK hi, Result.andThen_ok, Sem.run_pure, ih, List.map_cons, hs, Option.getD_some]
theorem mapM_some {α β : Type} {f : α → Option β} : ∀ {l : List α} {r : List β}, l.mapM f = some r → l.map f = r.map some
 | [], r, h => by simp at h; subst h; rfl
 | a :: l, r, h => by
  simp only [List.mapM_cons, Option.bind_eq_bind, Option.bind_eq_some_iff] at h
  obtain ⟨b, hb, r', hr, e⟩ := h
  simp at e
  subst e
  simp [hb, mapM_some hr]
theorem SN {t : TypeId} {parts : Array (Nat × Operand)} {z : Value} {ps : List (Nat × Nat)} {place : Nat → Option (Nat × Nat)} (hz : zeroOf P t = some z)
 (bP : ∀ {cells : Array Value}, Instr.fill place z.cells (parts.map fun (i, x) => (i, ρ x)).toList = some cells → (execOp ρ o).run P w = .ok (.value (.agg cells)) w)
 (eZ : parts.toList.map (fun p => place p.1) = ps.map some) (H : HR P w0 φ h w) (hv : LR φ vs ((parts.toList.map (·.2)).map ρ)) (e : (vw z.cells.toList ps).ev vs h k = true) : PR P w0 φ h ((execOp ρ o).run P w) fun v h' => k v h' = true := by
 obtain ⟨i, hi, l8, eR⟩ := nH hz
 have mP : (parts.map fun (i, x) => (i, ρ x)).toList.map (fun p => place p.1) = ps.map some := by
  rw [← eZ]; simp [Function.comp_def]
 have nK : LR φ vs ((parts.map fun (i, x) => (i, ρ x)).toList.map (·.2)) := by
  simpa [Function.comp_def] using hv
 have pW : LR φ z.cells.toList z.cells.toList := VR.cells (oM eR)
 unfold vw at e
 split at e
 · rename_i hc
   obtain ⟨e1, e2⟩ := SK (show vv (ps.map (·.2)) vs (fun l => k (.agg ⟨l⟩) h) = true from e)
   have hf := SM (place := place) (done := []) (rest := z.cells.toList) hc mP (by rw [← e2, LR.vo nK]; simp) rfl (by simp)
   exact .same H (bP (by simpa using hf)) (.agg _ _ (by simpa using SL nK)) e1
 · obtain ⟨r, r', q1, q2, q3⟩ := ET (place := place) (show iM z.cells.toList ps vs (fun l => k (.agg ⟨l⟩) h) = true from e) pW nK mP
   exact .same H (bP (by simpa using q3)) (.agg _ _ (by simpa using q2)) q1
theorem abU {t : TypeId} {parts : Array (Nat × Operand)} {fs : Array Field} {z : Value} {ps : List (Nat × Nat)} (ho : o.op = .build t parts) (hu : P.underlying t = some (.struct fs)) (hz : zeroOf P t = some z) (eO : ∀ f ∈ fs.toList, (ej P f.type).isSome = true)
    (eZ : parts.toList.mapM (fun p => (fs[p.1]?).bind fun f => (ej P f.type).map fun s => (f.offset, s)) = some ps) (H : HR P w0 φ h w) (hv : LR φ vs ((parts.toList.map (·.2)).map ρ)) (e : (vw z.cells.toList ps).ev vs h k = true) : PR P w0 φ h ((execOp ρ o).run P w) fun v h' => k v h' = true := by
  obtain ⟨i, hi, l8, eR⟩ := nH hz
  refine SN (place := fun j => (fs.map fun f => (f.offset, (ej P f.type).getD 0))[j]?) hz (fun {cells} hf => ?_) ?_ H hv e
  · have mP : (fs.mapM fun f => (do pure (f.offset, ← sizeOf f.type) : Sem (Nat × Nat))).run P w = .ok (fs.map fun f => (f.offset, (ej P f.type).getD 0)) w := by
      rw [Array.mapM_eq_mapM_toList]
      simp only [Sem.run_map, run_places fs.toList eO, Result.andThen_ok]
      congr 1
      apply Array.ext'
      simp
    simp only [execOp, ho, Instr.build, Sem.run_bind, pV hi l8, Result.andThen_ok, run_underlying hu]
    rw [mP]
    simp only [Result.andThen_ok]
    rw [hf]
    simp
  · rw [← mapM_some eZ]
    apply List.map_congr_left
    intro p hp
    simp only [Array.getElem?_map]
    cases hfp : fs[p.1]? with
    | none => simp
    | some f =>
      have hm : f ∈ fs.toList := by simpa using Array.mem_of_getElem? hfp
      obtain ⟨s, hs⟩ := Option.isSome_iff_exists.1 (eO f hm)
      simp [hs]
theorem abV {t e' : TypeId} {n s : Nat} {parts : Array (Nat × Operand)} {z : Value} (ho : o.op = .build t parts) (hu : P.underlying t = some (.array n e')) (hz : zeroOf P t = some z) (hs : ej P e' = some s)
 (H : HR P w0 φ h w) (hv : LR φ vs ((parts.toList.map (·.2)).map ρ)) (e : (vw z.cells.toList (parts.toList.map fun p => (p.1 * s, s))).ev vs h k = true) : PR P w0 φ h ((execOp ρ o).run P w) fun v h' => k v h' = true := by
 obtain ⟨i, hi, l8, eR⟩ := nH hz
 obtain ⟨i2, eY, rfl⟩ := kT hs
 refine SN (place := fun j => some (j * i2.size, i2.size)) hz (fun {cells} hf => ?_) ?_ H hv e
 · simp only [execOp, ho, Instr.build, Sem.run_bind, pV hi l8, Result.andThen_ok, run_underlying hu, iK eY]
   rw [hf]
   simp
 · simp [Function.comp_def]
theorem abW {t e' : TypeId} {n s : Nat} {parts : Array (Nat × Operand)} {z : Value} (ho : o.op = .buildSlice t n parts) (hu : P.underlying t = some (.slice e')) (hz : zeroOf P e' = some z) (hs : ej P e' = some s) (hle : n * s ≤ 65536) (lD : z.cells.size = s) (h0 : 0 < s)
    (H : HR P w0 φ h w) (hv : LR φ vs ((parts.toList.map (·.2)).map ρ)) (e : SO e' n (iZ n z.cells.toList) (parts.toList.map fun p => (p.1 * s, s)) vs h k = true) : PR P w0 φ h ((execOp ρ o).run P w) fun v h' => k v h' = true := by
  obtain ⟨i, hi, l8, eR⟩ := nH hz
  obtain ⟨i2, eY, rA⟩ := kT hs
  rw [hi] at eY; cases eY
  subst rA
  have mP : (parts.map fun (i, x) => (i, ρ x)).toList.map (fun p => some (p.1 * i.size, i.size)) = (parts.toList.map fun p => (p.1 * i.size, i.size)).map some := by simp [Function.comp_def]
  have nK : LR φ vs ((parts.map fun (i, x) => (i, ρ x)).toList.map (·.2)) := by simpa [Function.comp_def] using hv
  obtain ⟨r, r', q1, q2, q3⟩ := ET (place := fun j => some (j * i.size, i.size)) e (LR.EK (VR.cells (oM (φ := φ) eR)) n) nK mP
  obtain ⟨oL, c, aU, k1, k2, k3⟩ := rE q1
  obtain ⟨r1, r2⟩ := PR.newRow H q2 k1 k2
  have hm : ((Array.range (n * i.size)).map fun j => z.cells[j % z.cells.size]!) = (iZ n z.cells.toList).toArray := by
    apply Array.ext'
    have := KF z.cells (by omega) n
    rw [← lD]
    simpa [madeCells] using this
  have ti : Instr.fill (fun j => some (j * i.size, i.size)) (iZ n z.cells.toList).toArray (List.map (fun x => (x.fst, ρ x.snd)) parts.toList) = some r'.toArray := by simpa using q3
  have bP : (execOp ρ o).run P w = .ok (.value (.slice (some ⟨w.heap.size, 0, none⟩) n n)) (w.alloc (.cells r'.toArray e')) := by
    have Ac : ¬ (16777216 < n * i.size) := by omega
    simp only [execOp, ho, Instr.buildSlice, Sem.run_bind, run_underlying hu, Result.andThen_ok, iK hi]
    by_cases l9 : n * i.size = 0
    · have Ad : ((Array.range (n * i.size)).map fun j => (#[] : Array Value)[j % (#[] : Array Value).size]!) = (iZ n z.cells.toList).toArray := by
        rw [← hm, l9]; simp [Array.range_zero']
      simp [Ac, l9]
      simp [l9] at Ad
      rw [Ad]
      rw [ti]
      simp [newRow, World.alloc_eq]
    · simp [Ac, l9, pV hi l8]
      rw [hm, ti]
      simp [newRow, World.alloc_eq]
  refine ⟨_, _, _, _, _, .inl bP, k3, r2, by simp, .sl _ _ _ _ _ (by simp [au.put]) (.inl ⟨by unfold aT; have : n ≤ n * i.size := Nat.le_mul_of_pos_right n h0; omega, rfl, Nat.le_refl _, fun _ b d m hl => ?_⟩), r1⟩
  simp only [au.gN] at hl
  cases hl
  exact ⟨rfl, rfl, rfl⟩
end
end Go.Ve
