/- Part 7: VEval, part 9: append, copy, make, maps, strings, composite values. No condition. And what follows it. -/
import Derived.Test.YteeibihhdldjfaaGreatDoorVeF
import Derived.MapKept
set_option linter.unusedVariables false
set_option linter.unusedSimpArgs false
namespace Go.Ve
open Go.RowKit
section
variable {P : Program} {w0 w : World} {φ : aK} {h : AH} {ρ : Operand → Value} {o : Oper} {vs : List Value} {k : KV}
theorem ahB {x : Value} {x' : Value} {sz : Nat} {kk : Nat → List Value → Bool} (H : HR P w0 φ h w) (hr : VR φ x x') (e : lx h sz x kk = true) :
 ∃ n xs mB, kk n xs = true ∧ xs.length = n * sz ∧ LR φ xs mB ∧ (Builtin.lenOf x').run P w = .ok n w ∧ ∀ w', w'.heap = w.heap → (Builtin.firstCells sz n x').run P w' = .ok mB.toArray w' := by
 unfold lx at e
 rcases oI e with ⟨l0, c0, ar, e1⟩ | ⟨a, len, cap, ar, e1⟩ <;> clear e <;> subst ar
 · obtain ⟨rfl, rfl, hx⟩ := hr.pP
   subst hx
   exact ⟨0, [], [], e1, by simp, .nil, by simp [Builtin.lenOf], fun w' _ => by simp [Builtin.firstCells]⟩
 · obtain ⟨a', c9, hx, hs, hc⟩ := hr.nL
   subst hx
   by_cases hn : len = 0
   · subst hn
     rw [kG rfl, cond_true] at e1
     exact ⟨0, [], [], e1, by simp, .nil, by simp [Builtin.lenOf], fun w' _ => by simp [Builtin.firstCells, loadCells, loadCellsFrom]⟩
   · rw [fg hn, cond_false] at e1
     have cN : AtR φ a a' := by
      rcases hc with ⟨h1, h2, rl, h3⟩ | ⟨sz, h1, h2, h3, h4⟩
      · exact h3 (by omega)
      · exact (h4 (by omega)).1
     obtain ⟨lo, hi, ty, ml, c, l, g1, g2, g3, g4, g5, g6⟩ := sM e1
     have BU : a.off + l.length ≤ hi := by rw [g4]; exact g3
     obtain ⟨l', q1, q2⟩ := H.cells (P := P) hs cN g1 g2 BU g5
     refine ⟨len, l, l', g6, g4, q1, by simp [Builtin.lenOf], fun w' hw => ?_⟩
     have := q2 w' hw
     rw [g4] at this
     exact this
theorem HF {my : Array TypeId} {t u e eu ty : TypeId} {i : TypeInfo} (ht : P.underlying t = some (.slice e)) (hu : P.underlying u = some (.slice eu) ∨ P.underlying u = some .string) (hi : P.info? e = some i) (h0 : my[0]? = some t) (h1 : my[1]? = some u)
 {a : Option Addr} {sLen sCap n : Nat} {x : Value} {news : List Value} {w2 : World} (hlen : (Builtin.lenOf x).run P w = .ok n w) (hf : (Builtin.firstCells i.size n x).run P w = .ok news.toArray w)
 (iU : (match a with | some b => (storeCells (b.add (sLen * i.size)) news).run P w | none => .ok () w) = .ok () w2) (nv : sLen + n ≤ sCap) :
 (Builtin.append_ my ty #[.slice a sLen sCap, x]).run P w = .ok (.slice a (sLen + n) sCap) w2 := by
 have h0' : my[0]? = some t := h0
 cases a with
 | none =>
  simp only [Result.ok.injEq] at iU
  obtain ⟨_, rfl⟩ := iU
  rcases hu with hu | hu <;> simp [Builtin.append_, h0, h1, run_underlying ht, run_underlying hu, sizeOf, typeInfo, hi, hlen, nv, hf]
 | some b =>
  rcases hu with hu | hu <;> simp [Builtin.append_, h0, h1, run_underlying ht, run_underlying hu, sizeOf, typeInfo, hi, hlen, nv, hf, iU]
theorem HG {my : Array TypeId} {t u e eu ty : TypeId} {i : TypeInfo} {z : Value} (ht : P.underlying t = some (.slice e)) (hu : P.underlying u = some (.slice eu) ∨ P.underlying u = some .string) (hi : P.info? e = some i) (hz : i.zero = some z) (h0 : my[0]? = some t) (h1 : my[1]? = some u)
 {a : Option Addr} {sLen sCap n : Nat} {x : Value} {olds news : List Value} (hlen : (Builtin.lenOf x).run P w = .ok n w) (hf : ∀ w', w'.heap = w.heap → (Builtin.firstCells i.size n x).run P w' = .ok news.toArray w')
 (HE : ∀ w', w'.heap = w.heap → (Builtin.firstCells i.size sLen (.slice a sLen sCap)).run P w' = .ok olds.toArray w') (hg : sCap < sLen + n) (hb : (sLen + n) * i.bytes ≤ 140737488355328) (anZ : sLen + n ≤ 1048576) :
 ∃ nc, sLen + n ≤ nc ∧ (Builtin.append_ my ty #[.slice a sLen sCap, x]).run P w = .ok (.slice (some ⟨w.heap.size, 0, none⟩) (sLen + n) nc) (w.drew.alloc (.cells ((olds ++ news).toArray ++ Builtin.zeroCells z.cells (nc - (sLen + n))) e)) := by
 refine ⟨grownCap w (sLen + n) sCap e, grownCap_ge w _ _ _, ?_⟩
 have hn : ¬ (sLen + n ≤ sCap) := by omega
 have GQ : ¬ (9223372036854775807 < ((sLen : Int) + (n : Int))) := by omega
 have yA := growslice_fits (bytes := i.bytes) hg hb
 have Yp : ¬ (281474976710656 < Builtin.nextslicecap (sLen + n) sCap * i.bytes) := by omega
 have vd := hf w.drew rfl
 have ve := HE w.drew rfl
 rcases hu with hu | hu
 · simp [Builtin.append_, h0, h1, run_underlying ht, run_underlying hu, sizeOf, typeInfo, zeroValue, hi, hz, hlen, hn, GQ, Yp, Question.forced, vd, ve, newRow, grownCap]
   rw [← Array.append_assoc]
   simp
 · simp [Builtin.append_, h0, h1, run_underlying ht, run_underlying hu, sizeOf, typeInfo, zeroValue, hi, hz, hlen, hn, GQ, Yp, Question.forced, vd, ve, newRow, grownCap]
   rw [← Array.append_assoc]
   simp
theorem AtR.add {a a' : Addr} (h : AtR φ a a') (n : Nat) : AtR φ ⟨a.block, a.off + n, none⟩ (a'.add n) := by
 intro b d m hl
 obtain ⟨e1, e2, e3⟩ := h b d m hl
 rw [lU a' e3]
 exact ⟨e1, by show a'.off + n + d = a.off + n; omega, rfl⟩
theorem PR.ahC (H : HR P w0 φ h w) {ty : TypeId} {l l' : List Value} (hl : LR φ l l') {arr : Array Value} (ahD : ∀ (j : Nat) (v : Value), l'[j]? = some v → arr[j]? = some v) {c : NT Value} {o : Nat} {aW : NT AO} (hc : ∀ (j : Nat) (v : Value), l[j]? = some v → c.get (o + j) = some v)
 (cn : h.ob.iT h.nx (some (.cells o (o + l.length) ty true c)) aW) :
 HR P w0 (φ.put h.nx (.live w.heap.size o arr.size)) ⟨h.nx + 1, aW⟩ (w.alloc (.cells arr ty)) ∧ Ext h.nx φ (φ.put h.nx (.live w.heap.size o arr.size)) := by
 refine H.newAt (H.fresh _ (Nat.le_refl _)) cn.1 (fun g hg _ => cn.2 g hg) (fun g hg => H.fresh g (by simp only at hg; omega)) (fun g hg => by rw [cn.2 g (by simp only at hg; omega)]; exact H.top g (by simp only at hg; omega)) (by simp) _ (Nat.le_refl _) ?_
 refine .cells _ _ _ _ _ _ _ _ _ (fun _ => rfl) (Nat.le_refl _) rfl fun p L7 L8 => ?_
 obtain ⟨j, rfl⟩ : ∃ j, p = o + j := ⟨p - o, by omega⟩
 have hj : j < l.length := by omega
 obtain ⟨u, hu, hr⟩ := LR.get hl j _ (List.getElem?_eq_getElem hj)
 exact ⟨l[j], u, hc j _ (List.getElem?_eq_getElem hj), by rw [show o + j - o = j by omega]; exact ahD j u hu, hr⟩
theorem HR.drew (H : HR P w0 φ h w) : HR P w0 φ h w.drew := H.world rfl rfl rfl rfl
theorem PR.HI {r : Result Next} (H : HR P w0 φ h w) {ty : TypeId} {l l' : List Value} {z : Value} {sz n nc o : Nat} (eU : 0 < sz) (hz : z.cells.size = sz) (hl : LR φ l l') (hlen : l.length = n * sz) (Mq : n ≤ nc) {c : NT Value} {aW : NT AO}
 (hc : ∀ (j : Nat) (v : Value), l[j]? = some v → c.get (o + j) = some v) (cn : h.ob.iT h.nx (some (.cells o (o + l.length) ty true c)) aW) {k : KV} (e : k (.slice (some ⟨h.nx, o, none⟩) n (aY + sz)) ⟨h.nx + 1, aW⟩ = true)
 (hr : r = .ok (.value (.slice (some ⟨w.heap.size, 0, none⟩) n nc)) (w.drew.alloc (.cells (l'.toArray ++ Builtin.zeroCells z.cells (nc - n)) ty))) : PR P w0 φ h r fun v h' => k v h' = true := by
 obtain ⟨g1, g2⟩ := PR.ahC (P := P) H.drew (arr := l'.toArray ++ Builtin.zeroCells z.cells (nc - n)) hl (fun j v hj => by
  have : j < l'.length := (List.getElem?_eq_some_iff.1 hj).1
  rw [Array.getElem?_append]
  simp [this]
  simpa using (List.getElem?_eq_some_iff.1 hj).2) hc cn
 refine ⟨_, _, _, _, _, .inl hr, e, g2, by simp, .sl _ _ _ _ _ (by simp [aK.put]) (.inr ⟨sz, rfl, eU, Mq, fun _ => ⟨fun b d m hl => ?_, fun b d m hl => ?_⟩⟩), g1⟩
 · simp only [aK.iw] at hl
   cases hl
   exact ⟨rfl, by show 0 + o = o; omega, rfl⟩
 · simp only [aK.iw] at hl
   cases hl
   have h2 := hl.length
   simp only [Array.size_append, List.size_toArray, size_zeroCells, hz]
   rw [← h2, hlen, ← Nat.add_mul]
   show 0 + nc * sz ≤ _
   have : n + (nc - n) = nc := by omega
   rw [this]; omega
theorem HR.ahE (H : HR P w0 φ h w) {a a' : Addr} {lo hi : Nat} {ty : TypeId} {rw : Bool} {c : NT Value} (hs : φ a.block ≠ none) (ha : AtR φ a a') (ho : h.ob.get a.block = some (.cells lo hi ty rw c)) (m : Nat) (h1 : lo ≤ a.off) (h2 : a.off + m ≤ hi) :
 ∃ l l', l.length = m ∧ (∀ j v, l[j]? = some v → c.get (a.off + j) = some v) ∧ LR φ l l' ∧ ∀ w', w'.heap = w.heap → (loadCells a' m).run P w' = .ok l'.toArray w' := by
 obtain ⟨b, d, arr, _, _, _, _, _, _, _, hc, _⟩ := H.at hs ha ho
 let l := (List.range m).map fun j => (c.get (a.off + j)).getD undef
 have kK : l.length = m := by simp [l]
 have og : ∀ j v, l[j]? = some v → c.get (a.off + j) = some v := by
  intro j v hj
  have hjm : j < m := by have := (List.getElem?_eq_some_iff.1 hj).1; omega
  obtain ⟨u, u', q1, _, _⟩ := hc (a.off + j) (by omega) (by omega)
  simp [l, hjm, q1] at hj
  rw [q1, hj]
 obtain ⟨l', q1, q2⟩ := H.cells (P := P) hs ha ho h1 (by omega) og
 exact ⟨l, l', kK, og, q1, fun w' hw => by have := q2 w' hw; rwa [kK] at this⟩
theorem HR.ahF (H : HR P w0 φ h w) {f B d n : Nat} {o : AO} {o' : Obj} {h' : AH} {w' : World} (hf : φ f = none) (hB : ∀ g b d n, φ g = some (.live b d n) → b ≠ B) (cn : h.ob.iT f (some o) h'.ob) (jh : h.nx ≤ h'.nx) (hnf : f < h'.nx) (N : Nat) (hN : N ≤ f)
 (ho : OR P φ d n o o') (hb : w0.heap.size ≤ B) (h1 : w'.heap[B]? = some o') (h2 : ∀ k, k ≠ B → w'.heap[k]? = w.heap[k]?) (h3 : w'.heap.size = w.heap.size) (h4 : w'.os = w.os) (h5 : w'.tape = w.tape) (h6 : w'.output = w.output) :
 HR P w0 (φ.put f (.live B d n)) h' w' ∧ Ext N φ (φ.put f (.live B d n)) := by
 have hE : Ext N φ (φ.put f (.live B d n)) := aK.GV φ _ hf hN
 have key : ∀ g b e m, (φ.put f (.live B d n)) g = some (.live b e m) → (g = f ∧ b = B ∧ e = d ∧ m = n) ∨ (g ≠ f ∧ φ g = some (.live b e m) ∧ b ≠ B) := by
  intro g b e m hg
  by_cases dE : g = f
  · subst dE; rw [aK.iw] at hg; cases hg; exact .inl ⟨rfl, rfl, rfl, rfl⟩
  · rw [aK.iC _ _ dE] at hg
    exact .inr ⟨dE, hg, hB g b e m hg⟩
 refine ⟨⟨?_, ?_, fun g hg => by rw [cn.2 g (by omega)]; exact H.top g (by omega), ?_, ?_, ?_⟩, hE⟩
 · intro g g' b e e' m m' od hg oR
   rcases key g b e m hg with ⟨a1, a2, _⟩ | ⟨a1, a2, a3⟩ <;> rcases key g' b e' m' oR with ⟨b1, b2, _⟩ | ⟨b1, b2, b3⟩
   · rw [a1, b1]
   · exact absurd a2 b3
   · exact absurd b2 a3
   · exact H.inj g g' b e e' m m' od a2 b2
 · intro g hg
   rw [aK.iC _ _ (by omega)]
   exact H.fresh g (by omega)
 · intro g hg
   by_cases dE : g = f
   · subst dE; rw [aK.iw] at hg; cases hg
   · rw [aK.iC _ _ dE] at hg
     rw [cn.2 g dE]
     exact H.dead g hg
 · intro g b e m hg
   rcases key g b e m hg with ⟨rfl, rfl, rfl, rfl⟩ | ⟨a1, a2, a3⟩
   · exact ⟨o, o', cn.1, h1, ho.ext hE, fun _ => hb⟩
   · obtain ⟨o1, o2, q1, q2, q3, q4⟩ := H.obj g b e m a2
     exact ⟨o1, o2, by rw [cn.2 g a1]; exact q1, by rw [h2 b a3]; exact q2, q3.ext hE, q4⟩
 · exact ⟨h4.trans H.below.os, h5.trans H.below.tape, h6.trans H.below.output, by rw [h3]; exact H.below.size, fun k hk => by rw [h2 k (by omega)]; exact H.below.block k hk⟩
theorem ahG (arr : Array Value) (l' : List Value) (off : Nat) (yA : off + l'.length ≤ arr.size) :
 (List.take off arr.toList ++ l' ++ List.drop (off + l'.length) arr.toList).toArray.size = arr.size ∧
 ∀ p : Nat, (List.take off arr.toList ++ l' ++ List.drop (off + l'.length) arr.toList).toArray[p]? = if p < off then arr[p]? else if p < off + l'.length then l'[p - off]? else arr[p]? := by
 refine ⟨by simp; omega, fun p => ?_⟩
 simp only [List.getElem?_toArray, List.getElem?_append, List.length_take, List.length_append, List.getElem?_take, List.getElem?_drop, Array.getElem?_toList, Array.length_toList]
 have hm : min off arr.size = off := by omega
 rw [hm]
 by_cases q1 : p < off
 · simp [q1, show p < off + l'.length by omega]
 · by_cases q2 : p < off + l'.length
   · simp [q1, q2]
   · simp only [q1, q2, if_false]
     congr 1; omega
theorem LR.ahH {l l' : List Value} (hl : LR φ l l') (oJ : ∀ v ∈ l, fb v = true) : ∀ v ∈ l', v.oneCell' = true := by
 intro v' ke
 have hlen := hl.length
 obtain ⟨j, hj⟩ := List.getElem?_of_mem ke
 have BG : j < l.length := by rw [hlen]; exact (List.getElem?_eq_some_iff.1 hj).1
 obtain ⟨u, hu, hr⟩ := LR.get hl j _ (List.getElem?_eq_getElem BG)
 rw [hj] at hu; cases hu
 exact hr.fb (oJ _ (List.getElem_mem BG))
theorem Xh {c : Call} {t u e' eu : TypeId} {i : TypeInfo} {z : Value} {p p' q' : Value} {n : Nat} {xs mB : List Value} (cg : ∀ {v' : Value} {w' : World}, (Builtin.append_ c.argTypes o.type #[p', q']).run P w = .ok v' w' → (execOp ρ o).run P w = .ok (.value v') w')
 (h0 : c.argTypes[0]? = some t) (h1 : c.argTypes[1]? = some u) (ht : P.underlying t = some (.slice e')) (hu : P.underlying u = some (.slice eu) ∨ P.underlying u = some .string)
 (hi : P.info? e' = some i) (hz : i.zero = some z) (uQ : i.bytes ≤ 65536) (lN : z.cells.size = i.size) (eU : 0 < i.size) (H : HR P w0 φ h w) (hr : VR φ p p') (nu : xs.length = n * i.size) (qt : LR φ xs mB)
 (hlen : (Builtin.lenOf q').run P w = .ok n w) (qu : ∀ w', w'.heap = w.heap → (Builtin.firstCells i.size n q').run P w' = .ok mB.toArray w')
 (e2 : kq p (yj h e' i.size n xs k) (yk h e' i.size n xs k) = true) : PR P w0 φ h ((execOp ρ o).run P w) fun v h' => k v h' = true := by
 have an0 := qt.length
 have hbound : ∀ m, m ≤ 1048576 → m * i.bytes ≤ 140737488355328 := fun m hm => Nat.le_trans (Nat.mul_le_mul hm uQ) (by decide)
 rcases oI e2 with ⟨l0, c0, ar, e3⟩ | ⟨a, len, cap, ar, e3⟩ <;> subst ar
 · obtain ⟨rfl, rfl, hx⟩ := hr.pP
   unfold yj at e3
   by_cases hn : n = 0
   · subst hn
     rw [kG rfl, cond_true] at e3
     have ki : mB = [] := List.eq_nil_of_length_eq_zero (by omega)
     subst ki
     exact .same H (cg (by rw [hx]; exact HF ht hu hi h0 h1 (a := none) hlen (qu w rfl) rfl (by omega))) .mi e3
   · rw [fg hn, cond_false] at e3
     obtain ⟨xV, e4⟩ := cj e3
     have xV := Nat.le_of_ble_eq_true xV
     obtain ⟨oJ, cc, aW, g1, g2, g3⟩ := re e4
     rw [ch] at g3
     obtain ⟨nc, q1, q2⟩ := HG (P := P) (ty := o.type) ht hu hi hz h0 h1 (a := none) (sLen := 0) (sCap := 0) (olds := []) hlen qu (fun w' _ => by simp [Builtin.firstCells]) (by omega) (by rw [Nat.zero_add]; exact hbound n xV) (by omega)
     rw [← hx] at q2
     simp only [Nat.zero_add, List.nil_append] at q1 q2
     exact PR.HI (o := 0) H eU lN qt nu q1 (fun j v hj => by rw [Nat.zero_add]; exact g1 j v hj) (by rw [Nat.zero_add]; exact g2) g3 (cg q2)
 · obtain ⟨a', c9, hx, hs, iu⟩ := hr.nL
   have Hk : len ≤ c9 := by
    rcases iu with ⟨_, h2, h3, _⟩ | ⟨_, _, _, h3, _⟩ <;> omega
   have cN : 0 < c9 → AtR φ a a' := by
    intro hp
    rcases iu with ⟨_, h2, h3, h4⟩ | ⟨_, _, _, h3, h4⟩
    · exact h4 (by omega)
    · exact (h4 hp).1
   unfold yk at e3
   by_cases hn : n = 0
   · subst hn
     rw [kG rfl, cond_true] at e3
     have ki : mB = [] := List.eq_nil_of_length_eq_zero (by omega)
     subst ki
     refine .same H (cg (by rw [hx]; exact HF ht hu hi h0 h1 (a := some a') hlen (qu w rfl) rfl (by omega))) ?_ e3
     exact .sl _ _ _ _ _ hs iu
   · rw [fg hn, cond_false, ch] at e3
     obtain ⟨B2, e4⟩ := cj e3
     have B2 : len + n ≤ 1048576 := Nat.le_of_ble_eq_true B2
     have hold : ∀ {lo dS : Nat} {ty : TypeId} {ml : Bool} {cc : NT Value}, h.ob.get a.block = some (.cells lo dS ty ml cc) → lo ≤ a.off → a.off + len * i.size ≤ dS →
      ∃ l l', l.length = len * i.size ∧ (∀ j v, l[j]? = some v → cc.get (a.off + j) = some v) ∧ LR φ l l' ∧ ∀ w', w'.heap = w.heap → (Builtin.firstCells i.size len (.slice (some a') len c9)).run P w' = .ok l'.toArray w' := by
      intro lo dS ty ml cc g1 g2 g3
      by_cases jY : len = 0
      · subst jY
        exact ⟨[], [], by simp, fun j v hj => by simp at hj, .nil, fun w' _ => by simp [Builtin.firstCells, loadCells, loadCellsFrom]⟩
      · exact H.ahE (P := P) hs (cN (by omega)) g1 _ g2 g3
     cases hb : Nat.ble aY cap with
     | true =>
      rw [hb, cond_true] at e4
      have hb := Nat.le_of_ble_eq_true hb
      unfold Gl at e4
      obtain ⟨HJ, e5⟩ := cj e4
      have HJ : cap = aY + i.size := Nat.eq_of_beq_eq_true HJ
      obtain ⟨lo, dS, ty, ml, cc, g1, e6⟩ := rN e5
      obtain ⟨g2, e7⟩ := cj e6
      simp only [Bool.and_eq_true] at g2
      obtain ⟨⟨⟨⟨g2, g3⟩, g4⟩, g5⟩, g6⟩ := g2
      subst g2
      obtain rfl := Nat.eq_of_beq_eq_true g3
      have g4 := Nat.le_of_ble_eq_true g4
      have g5 : a.off + len * i.size ≤ dS := Nat.le_of_ble_eq_true g5
      have oJ := GZ _ g6
      obtain ⟨Yq, k1, e8⟩ := mY e7
      rw [ch] at e8
      obtain ⟨c2, e9, k2, k3⟩ := GW _ e8
      rw [ch] at e9
      obtain ⟨MC, k4, HK⟩ := sN e9
      obtain ⟨ol, PI, m1, m2, m3, m4⟩ := hold g1 g4 g5
      have H1 := H.kill (P := P) (w := w) (h' := ⟨h.nx, Yq⟩) hs k1 rfl
      have E1 : Ext h.nx φ (φ.put a.block .dead) := aK.Gf φ _ _ hs
      have ahI : ∀ j v, (ol ++ xs)[j]? = some v → c2.get (a.off + j) = some v := by
       intro j v hj
       rw [List.getElem?_append] at hj
       split at hj
       · rename_i bW
         rw [k3 _ (.inl (by show a.off + j < a.off + len * i.size; omega))]
         exact m2 j v hj
       · have := k2 _ v hj
         rw [← this]; congr 1
         show a.off + j = a.off + len * i.size + (j - ol.length)
         omega
      have B3 : (ol ++ xs).length = (len + n) * i.size := by rw [List.length_append, m1, nu, Nat.add_mul]
      have cn : (⟨h.nx, Yq⟩ : AH).ob.iT h.nx (some (.cells a.off (a.off + (ol ++ xs).length) ty true c2)) MC := by
       rw [B3]; exact k4
      have Mz : LR (φ.put a.block .dead) (ol ++ xs) (PI ++ mB) := LR.append (LR.ext E1 qt) (LR.ext E1 m3)
      by_cases nv : len + n ≤ c9
      · -- in place
        obtain ⟨sz, q1, q2, q3, q4⟩ : ∃ sz, cap = aY + sz ∧ 0 < sz ∧ len ≤ c9 ∧ (0 < c9 → AtR φ a a' ∧ ∀ b d n, φ a.block = some (.live b d n) → a'.off + c9 * sz ≤ n) := by
         rcases iu with ⟨h2, _⟩ | h2
         · omega
         · exact h2
        have ahJ : sz = i.size := by omega
        subst ahJ
        obtain ⟨Bz, PJ⟩ := q4 (by omega)
        obtain ⟨B, d, arr, fr, v1, v2, v3, v4, v5, v6, v7, v8, v9⟩ := H.at hs Bz g1
        obtain rfl := v9 rfl
        have PJ := PJ _ _ _ v1
        have hmul : (len + n) * i.size ≤ c9 * i.size := Nat.mul_le_mul nv (Nat.le_refl _)
        have an1 : (len + n) * i.size = len * i.size + n * i.size := Nat.add_mul _ _ _
        have yA : a'.off + len * i.size + mB.length ≤ arr.size := by omega
        have iU := run_storeCells_at P B (a'.off + len * i.size) ty mB 0 arr w v5 (by simpa using yA) (LR.ahH qt oJ)
        simp only [Nat.add_zero] at iU
        obtain ⟨x1, x2⟩ := ahG arr mB (a'.off + len * i.size) yA
        generalize hX : (List.take (a'.off + len * i.size) arr.toList ++ mB ++ List.drop (a'.off + len * i.size + mB.length) arr.toList).toArray = X at iU x1 x2
        have FQ : a'.add (len * i.size) = ⟨B, a'.off + len * i.size, none⟩ := by rw [lU a' v4, v2]
        have B4 := HF (P := P) (ty := o.type) ht hu hi h0 h1 (a := some a') (sLen := len) (sCap := c9) hlen (qu w rfl) (by simp only []; rw [FQ]; exact iU) nv
        rw [← hx] at B4
        have hor : OR P (φ.put a.block .dead) d arr.size (.cells a.off (a.off + (ol ++ xs).length) ty true c2) (.cells X ty (0, 0)) := by
         refine .cells _ _ _ _ _ _ _ _ _ (fun _ => rfl) (by omega) x1.symm fun p p1 p2 => ?_
         rw [B3] at p2
         rw [x2]
         by_cases hp : p < a.off + len * i.size
         · obtain ⟨v, v', y1, y2, y3⟩ := v7 p (by omega) (by omega)
           exact ⟨v, v', by rw [k3 p (.inl hp)]; exact y1, by rw [if_pos (by omega)]; exact y2, VR.ext E1 y3⟩
         · obtain ⟨j, rfl⟩ : ∃ j, p = a.off + len * i.size + j := ⟨p - (a.off + len * i.size), by omega⟩
           have hj : j < xs.length := by omega
           obtain ⟨y, y1, y2⟩ := LR.get qt j _ (List.getElem?_eq_getElem hj)
           refine ⟨xs[j], y, k2 j _ (List.getElem?_eq_getElem hj), ?_, VR.ext E1 y2⟩
           rw [if_neg (by omega), if_pos (by omega), show a.off + len * i.size + j - d - (a'.off + len * i.size) = j by omega]
           exact y1
        obtain ⟨r1, r2⟩ := H1.ahF (P := P) (f := h.nx) (B := B) (h' := ⟨h.nx + 1, MC⟩) (w' := w.setRow B X) (by rw [aK.iC _ _ (fun e => hs (by rw [← e]; exact H.fresh _ (Nat.le_refl _)))]; exact H.fresh _ (Nat.le_refl _))
         (fun g b' d' n' hg hbB => by
          by_cases PK : g = a.block
          · subst PK; rw [aK.iw] at hg; cases hg
          · rw [aK.iC _ _ PK] at hg
            subst hbB
            exact PK (H.inj g a.block b' d' d n' arr.size (v8 rfl) hg v1)) cn (by simp) (by simp) h.nx (Nat.le_refl _) hor (v8 rfl) (setRow_heap w B arr X ty (0, 0) v5) (fun k hk => by
          unfold World.setRow
          simp only [Array.getElem?_modify]
          rw [if_neg (by omega)]) (by simp) rfl rfl rfl
        refine ⟨_, _, _, _, _, .inl (cg B4), HK, E1.trans r2 (Nat.le_refl _), by simp, .sl _ _ _ _ _ (by simp [aK.put]) (.inr ⟨i.size, HJ, eU, nv, fun _ => ⟨fun b d' m hl => ?_, fun b d' m hl => ?_⟩⟩), r1⟩
        · simp only [aK.iw] at hl
          cases hl
          exact ⟨v2, v3, v4⟩
        · simp only [aK.iw] at hl
          cases hl
          exact PJ
      · -- an2
        obtain ⟨nc, q1, q2⟩ := HG (P := P) (ty := o.type) ht hu hi hz h0 h1 (a := some a') (sLen := len) (sCap := c9) hlen qu m4 (by omega) (hbound _ B2) (by omega)
        rw [← hx] at q2
        have := PR.HI (P := P) (w0 := w0) (o := a.off) H1 eU lN Mz B3 q1 ahI cn (by rw [HJ] at HK; exact HK) (cg q2)
        obtain ⟨v', w', v, h', φ', r1, r2, r3, r4, r5, r6⟩ := this
        exact ⟨v', w', v, h', φ', r1, r2, E1.trans r3 (Nat.le_refl _), r4, r5, r6⟩
     | false =>
      rw [hb, cond_false] at e4
      have jX : cap < aY := by rw [sL] at hb; simpa using hb
      obtain ⟨A9, PL⟩ : c9 = cap ∧ (0 < cap → AtR φ a a') := by
       rcases iu with ⟨_, h2, _, h3⟩ | ⟨sz, h2, _⟩
       · exact ⟨h2, h3⟩
       · omega
      cases lQ : Nat.ble (Nat.add len n) cap with
      | true =>
       rw [lQ, cond_true, ch] at e4
       have nv : len + n ≤ cap := Nat.le_of_ble_eq_true lQ
       obtain ⟨lo, dS, ty, cc, cc', aW, g1, g2, g3, g4, g5, g6, g7, g8⟩ := L9 e4
       have Bz := (PL (by omega)).add (len * i.size)
       obtain ⟨w', q1, q2, _⟩ := H.write (P := P) (a := ⟨a.block, a.off + len * i.size, none⟩) hs Bz g1 g2 g3 qt g4 g5 g6 g7
       have B4 := HF (P := P) (ty := o.type) ht hu hi h0 h1 (a := some a') (sLen := len) (sCap := c9) hlen (qu w rfl) q1 (by omega)
       rw [← hx] at B4
       exact ⟨_, _, _, _, _, .inl (cg B4), g8, Ext.refl _ _, Nat.le_refl _, .sl _ _ _ _ _ hs (.inl ⟨jX, A9, nv, PL⟩), q2⟩
      | false =>
       rw [lQ, cond_false] at e4
       have an3 : ¬ (len + n ≤ cap) := by rw [sL] at lQ; simpa using lQ
       by_cases jY : len = 0
       · subst jY
         rw [kG rfl, cond_true] at e4
         obtain ⟨oJ, cc, aW, g1, g2, g3⟩ := re e4
         rw [ch] at g3
         obtain ⟨nc, q1, q2⟩ := HG (P := P) (ty := o.type) ht hu hi hz h0 h1 (a := some a') (sLen := 0) (sCap := c9) (olds := []) hlen qu (fun w' _ => by simp [Builtin.firstCells, loadCells, loadCellsFrom]) (by omega) (hbound _ B2) (by omega)
         rw [← hx] at q2
         simp only [Nat.zero_add, List.nil_append] at q1 q2
         refine PR.HI (o := 0) H eU lN qt nu q1 (fun j v hj => by rw [Nat.zero_add]; exact g1 j v hj) (by rw [Nat.zero_add]; exact g2) ?_ (cg q2)
         rw [show Nat.add 0 n = n from Nat.zero_add n] at g3
         exact g3
       · rw [fg jY, cond_false] at e4
         obtain ⟨lo, dS, ty, ml, cc, ol, g1, g2, g3, g4, g5, g6⟩ := sM e4
         have e5 := q8 _ _ g6
         obtain ⟨oJ, c2, aW, k1, k2, k3⟩ := re e5
         rw [ch] at k3
         obtain ⟨PI, m3, m4⟩ := H.cells (P := P) hs (PL (by omega)) g1 g2 (by rw [g4]; exact g3) g5
         rw [g4] at m4
         obtain ⟨nc, q1, q2⟩ := HG (P := P) (ty := o.type) ht hu hi hz h0 h1 (a := some a') (sLen := len) (sCap := c9) (olds := PI) hlen qu (fun w' hw => by simp only [Builtin.firstCells]; exact m4 w' hw) (by omega) (hbound _ B2) (by omega)
         rw [← hx] at q2
         have B3 : (ol ++ xs).length = (len + n) * i.size := by rw [List.length_append, g4, nu, Nat.add_mul]; rfl
         exact PR.HI (o := 0) H eU lN (LR.append qt m3) B3 q1 (fun j v hj => by rw [Nat.zero_add]; exact k1 j v hj) (by rw [Nat.zero_add]; exact k2) k3 (cg q2)
theorem aeD {c : Call} {s x : Operand} {t u e' eu : TypeId} {i : TypeInfo} {z : Value} (ho : o.op = .call c) (hc : c.callee = .builtin .append) (ha : c.args = #[s, x]) (h0 : c.argTypes[0]? = some t) (h1 : c.argTypes[1]? = some u) (ht : P.underlying t = some (.slice e')) (hu : P.underlying u = some (.slice eu))
 (hi : P.info? e' = some i) (hz : i.zero = some z) (uQ : i.bytes ≤ 65536) (lN : z.cells.size = i.size) (eU : 0 < i.size) (H : HR P w0 φ h w) (hv : LR φ vs ([s, x].map ρ)) (e : VL e' i.size z.cells.toList vs h k = true) : PR P w0 φ h ((execOp ρ o).run P w) fun v h' => k v h' = true := by
 obtain ⟨p, q, ar, e1⟩ := gQ e; clear e; subst ar; have e := e1; clear e1
 obtain ⟨p', q', hp, hr, hq⟩ := hv.two
 simp at hp; obtain ⟨e1, e2⟩ := hp; subst e1 e2
 have cg : ∀ {v' : Value} {w' : World}, (Builtin.append_ c.argTypes o.type #[ρ s, ρ x]).run P w = .ok v' w' → (execOp ρ o).run P w = .ok (.value v') w' := by
  intro v' w' hh
  rw [kI ho hc]
  simp [builtin, ha, hh]
 obtain ⟨n, xs, mB, e1, nu, qt, hlen, qu⟩ := ahB (P := P) H hq e
 obtain ⟨_, e2⟩ := cj e1
 exact Xh (p := p) (p' := ρ s) (q' := ρ x) cg h0 h1 ht (.inl hu) hi hz uQ lN eU H hr nu qt hlen qu e2
end
end Go.Ve
namespace Go.Ve
open Go.RowKit
open Go.MapKept (run_findKey sameBits_self IsKey)
section
variable {P : Program} {w0 w : World} {φ : aK} {h : AH} {ρ : Operand → Value} {o : Oper} {vs : List Value} {k : KV}
theorem adz {c : Call} {x y : Operand} (ho : o.op = .call c) (hc : c.callee = .builtin .max) (ha : c.args = #[x, y]) (H : HR P w0 φ h w) (hv : LR φ vs ([x, y].map ρ)) (e : L5 vs h k = true) : PR P w0 φ h ((execOp ρ o).run P w) fun v h' => k v h' = true := by
 obtain ⟨p, q, ar, e1⟩ := gQ e; clear e; subst ar; have e := e1; clear e1
 obtain ⟨p', q', hp, hr, hq⟩ := hv.two
 simp at hp; obtain ⟨e1, e2⟩ := hp; subst e1 e2
 obtain ⟨kx, a, ar, e1⟩ := mj e; clear e; subst ar; have e := e1; clear e1
 obtain ⟨ky, b, ar, e1⟩ := mj e; clear e; subst ar; have e := e1; clear e1
 obtain ⟨hk, e1⟩ := cj e; clear e
 obtain rfl := mW hk
 rw [xK] at e1
 have hx := hr.gM
 have hy := hq.gM
 have cg : (execOp ρ o).run P w = .ok (.value (.int kx (if b > a then b else a))) w := by
  rw [kI ho hc]
  simp [builtin, ha, hx, hy, run_max_int2]
 refine .same H cg (.int _ _) ?_
 by_cases mX : a < b
 · rw [if_pos mX]; simpa [mX] using e1
 · rw [if_neg mX]; simpa [mX] using e1
theorem adA {c : Call} {x y : Operand} (ho : o.op = .call c) (hc : c.callee = .builtin .min) (ha : c.args = #[x, y]) (H : HR P w0 φ h w) (hv : LR φ vs ([x, y].map ρ)) (e : L6 vs h k = true) : PR P w0 φ h ((execOp ρ o).run P w) fun v h' => k v h' = true := by
 obtain ⟨p, q, ar, e1⟩ := gQ e; clear e; subst ar; have e := e1; clear e1
 obtain ⟨p', q', hp, hr, hq⟩ := hv.two
 simp at hp; obtain ⟨e1, e2⟩ := hp; subst e1 e2
 obtain ⟨kx, a, ar, e1⟩ := mj e; clear e; subst ar; have e := e1; clear e1
 obtain ⟨ky, b, ar, e1⟩ := mj e; clear e; subst ar; have e := e1; clear e1
 obtain ⟨hk, e1⟩ := cj e; clear e
 obtain rfl := mW hk
 rw [xK] at e1
 have hx := hr.gM
 have hy := hq.gM
 have cg : (execOp ρ o).run P w = .ok (.value (.int kx (if b < a then b else a))) w := by
  rw [kI ho hc]
  simp [builtin, ha, hx, hy, run_min_int2]
 refine .same H cg (.int _ _) ?_
 by_cases mX : b < a
 · rw [if_pos mX]; simpa [mX] using e1
 · rw [if_neg mX]; simpa [mX] using e1
theorem adB {c : Call} {d s : Operand} {t e' : TypeId} {i : TypeInfo} (ho : o.op = .call c) (hc : c.callee = .builtin .copy) (ha : c.args = #[d, s]) (h0 : c.argTypes[0]? = some t) (ht : P.underlying t = some (.slice e'))
 (hi : P.info? e' = some i) (H : HR P w0 φ h w) (hv : LR φ vs ([d, s].map ρ)) (e : Uh i.size vs h k = true) : PR P w0 φ h ((execOp ρ o).run P w) fun v h' => k v h' = true := by
 obtain ⟨p, q, ar, e1⟩ := gQ e; clear e; subst ar; have e := e1; clear e1
 obtain ⟨p', q', hp, hr, hq⟩ := hv.two
 simp at hp; obtain ⟨e1, e2⟩ := hp; subst e1 e2
 have cg : ∀ {v' : Value} {w' : World}, (Builtin.copy_ c.argTypes o.type #[ρ d, ρ s]).run P w = .ok v' w' → (execOp ρ o).run P w = .ok (.value v') w' := by
  intro v' w' hh
  rw [kI ho hc]
  simp [builtin, ha, hh]
 have cN : ∀ {a a' : Addr} {len cap c9 : Nat}, qY φ a a' len cap c9 → 0 < len → AtR φ a a' := by
  intro a a' len cap c9 iu hp
  rcases iu with ⟨_, h2, _, h4⟩ | ⟨_, _, _, h3, h4⟩
  · exact h4 (by omega)
  · exact (h4 (by omega)).1
 rcases oI e with ⟨l0, c0, ar, e3⟩ | ⟨a, len, cap, ar, e3⟩ <;> clear e <;> subst ar
 · obtain ⟨rfl, rfl, hx⟩ := hr.pP
   rcases oI e3 with ⟨l1, c1, ar, e4⟩ | ⟨b, nK, adC, ar, e4⟩ <;> subst ar
   · obtain ⟨rfl, rfl, hy⟩ := hq.pP
     exact .same H (cg (by rw [hx, hy]; simp [Builtin.copy_, h0, run_underlying ht, Builtin.lenOf, je hi, Builtin.firstCells, goInt])) (.int _ _) e4
   · obtain ⟨b', adD, hy, _, _⟩ := hq.nL
     exact .same H (cg (by rw [hx, hy]; simp [Builtin.copy_, h0, run_underlying ht, Builtin.lenOf, je hi, Builtin.firstCells, goInt, loadCells, loadCellsFrom])) (.int _ _) e4
 · obtain ⟨a', c9, hx, hs, iu⟩ := hr.nL
   rcases oI e3 with ⟨l1, c1, ar, e4⟩ | ⟨b, nK, adC, ar, e4⟩ <;> subst ar
   · obtain ⟨rfl, rfl, hy⟩ := hq.pP
     exact .same H (cg (by rw [hx, hy]; simp [Builtin.copy_, h0, run_underlying ht, Builtin.lenOf, je hi, Builtin.firstCells, goInt, storeCells])) (.int _ _) e4
   · obtain ⟨b', adD, hy, q7, adE⟩ := hq.nL
     rw [ch] at e4
     have adF : (bif Nat.ble nK len then nK else len) = Nat.min nK len := by
      rw [sL]
      by_cases hle : nK ≤ len
      · simp [hle, Nat.min_eq_left hle, Nat.min_def]
      · simp [hle, Nat.min_def]
     rw [adF] at e4
     by_cases hn : Nat.min nK len = 0
     · rw [hn, kG rfl, cond_true] at e4
       exact .same H (cg (by rw [hx, hy]; simp [Builtin.copy_, h0, run_underlying ht, Builtin.lenOf, je hi, Builtin.firstCells, goInt, hn, loadCells, loadCellsFrom, storeCells])) (.int _ _) e4
     · rw [fg hn, cond_false] at e4
       have L7 : 0 < nK := by have := Nat.min_le_left nK len; simp only [Nat.min_def] at hn this; split at hn <;> omega
       have L8 : 0 < len := by simp only [Nat.min_def] at hn; split at hn <;> omega
       obtain ⟨lo, dS, ty, ml, cc, l, g1, g2, g3, g4, g5, g6⟩ := sM e4
       obtain ⟨l', q1, q2⟩ := H.cells (P := P) q7 (cN adE L7) g1 g2 (by rw [g4]; exact g3) g5
       obtain ⟨lo2, fx, ty2, c2, c2', aW, k1, k2, k3, k4, k5, k6, k7, k8⟩ := L9 g6
       obtain ⟨w', r1, r2, _⟩ := H.write (P := P) hs (cN iu L8) k1 k2 k3 q1 k4 k5 k6 k7
       have Ui := q2 w rfl
       rw [g4] at Ui
       have adG : (loadCells b' (Nat.min nK len * i.size)).run P w = .ok l'.toArray w := Ui
       refine ⟨_, w', _, _, φ, .inl (cg ?_), k8, Ext.refl _ _, Nat.le_refl _, .int _ _, r2⟩
       rw [hx, hy]
       simp only [Builtin.copy_, h0, Builtin.lenOf]
       simp [run_underlying ht, je hi, Builtin.firstCells, goInt, adG, r1]
theorem LR.FK {φ : aK} {l l' : List Value} (h : LR φ l l') : ∀ n, LR φ (jz n l) (jz n l')
 | 0 => .nil
 | n + 1 => LR.append (LR.FK h n) h
theorem Uj : ∀ (n : Nat) {zero : List Value} {k : List Value → Bool}, xL n zero k = true → k (jz n zero) = true
 | 0, zero, k, h => h
 | n + 1, zero, k, h => q8 _ _ (Uj n (show xL n zero (fun l => iv zero l k) = true from h))
theorem Uk (z : List Value) : ∀ n, (jz n z).length = n * z.length
 | 0 => by simp [jz]
 | n + 1 => by simp [jz, Uk z n, Nat.add_mul]; omega
theorem Ul (z : List Value) (hz : 0 < z.length) : ∀ (n j : Nat), j < n * z.length → (jz n z)[j]? = z[j % z.length]?
 | 0, j, hj => by omega
 | n + 1, j, hj => by
  simp only [jz, List.getElem?_append]
  by_cases uP : j < z.length
  · rw [if_pos uP, Nat.mod_eq_of_lt uP]
  · rw [if_neg uP, Ul z hz n _ (by rw [Nat.add_mul] at hj; omega), Nat.mod_eq_sub_mod (by omega : j ≥ z.length)]
theorem Ma (z : Array Value) (hz : 0 < z.size) (n : Nat) : (madeCells z (n * z.size)).toList = jz n z.toList := by
 apply List.ext_getElem?
 intro j
 by_cases hj : j < n * z.size
 · rw [Ul z.toList (by simpa using hz) n j (by simpa using hj)]
   have hm : j % z.size < z.size := Nat.mod_lt _ hz
   simp [madeCells, hj, hm]
 · rw [List.getElem?_eq_none (by simp [madeCells]; omega), List.getElem?_eq_none (by rw [Uk]; simpa using by omega)]
theorem adH {t e' : TypeId} {x y : Operand} {i : TypeInfo} {z : Value} (ho : o.op = .makeSlice t x y) (ht : P.underlying t = some (.slice e')) (hi : P.info? e' = some i) (hz : i.zero = some z) (fi : xM z = true) (uQ : i.bytes ≤ 65536) (lN : z.cells.size = i.size) (eU : 0 < i.size)
 (H : HR P w0 φ h w) (hv : LR φ vs ([x, y].map ρ)) (e : Um e' i.size z.cells.toList vs h k = true) : PR P w0 φ h ((execOp ρ o).run P w) fun v h' => k v h' = true := by
 obtain ⟨p, q, ar, e1⟩ := gQ e; clear e; subst ar; have e := e1; clear e1
 obtain ⟨p', q', hp, hr, hq⟩ := hv.two
 simp at hp; obtain ⟨e1, e2⟩ := hp; subst e1 e2
 obtain ⟨kl, l, ar, e1⟩ := q9 e; clear e; subst ar; have e := e1; clear e1
 obtain ⟨kc, c, ar, e1⟩ := q9 e; clear e; subst ar; have e := e1; clear e1
 obtain ⟨g, e1⟩ := cj e
 simp only [Bool.and_eq_true] at g
 obtain ⟨⟨g1, g2⟩, g3⟩ := g
 have g1 := Nat.le_of_ble_eq_true g1
 have g2 := Nat.le_of_ble_eq_true g2
 have e2 := Uj _ e1
 obtain ⟨oJ, cc, aW, k1, k2, k3⟩ := re e2
 have hb : (i.bytes : Int) * (Int.ofNat c) ≤ 281474976710656 := by
  have : i.bytes * c ≤ 65536 * 65536 := Nat.mul_le_mul uQ g2
  simp only [Int.ofNat_eq_natCast]
  rw [← Int.natCast_mul]; omega
 have cg := run_make (P := P) w t e' i z ht hi hz kl kc (Int.ofNat l) (Int.ofNat c) (by simp) (by simp only [Int.ofNat_eq_natCast]; omega) hb (by simp only [Int.ofNat_eq_natCast]; omega)
 have hm : madeCells z.cells (c * i.size) = (jz c z.cells.toList).toArray := by
  apply Array.ext'
  rw [← lN, Ma z.cells (by omega) c]
 have hc : (Int.ofNat c).toNat = c := rfl
 have hl : (Int.ofNat l).toNat = l := rfl
 rw [hc, hl, hm] at cg
 obtain ⟨r1, r2⟩ := PR.newRow H (LR.FK (VR.cells (oK (φ := φ) fi)) c) k1 k2
 refine ⟨.slice (some ⟨w.heap.size, 0, none⟩) l c, _, _, _, _, .inl (by simp only [execOp, ho, hr.gM, hq.gM]; simp only [Sem.run_bind, cg, Result.andThen_ok, Sem.run_pure]), k3, r2, by simp, .sl _ _ _ _ _ (by simp [aK.put]) (.inl ⟨by unfold aY; omega, rfl, g1, fun _ b d n hl => ?_⟩), r1⟩
 simp only [aK.iw] at hl
 cases hl
 exact ⟨rfl, rfl, rfl⟩
theorem xN {d : TypeDesc} {kc : Nat} {a b : Value} {r : Bool} (hk : jA d = some kc) (he : lh kc a b = some r) : Instr.sameNow d a b = some r := by
 unfold lh at he
 split at he <;> first | (cases he; done) | skip
 · rename_i k1 x k2 y
   cases ef : fM k1 k2 with
   | false => rw [ef] at he; cases he
   | true =>
    rw [ef] at he
    simp only [cond_true, Option.some.injEq] at he
    obtain rfl := mW ef
    unfold jA at hk
    split at hk <;> first | (cases hk; done) | skip
    subst he
    simp [Instr.sameNow, rf]
 · rename_i x y
   simp only [Option.some.injEq] at he
   unfold jA at hk
   split at hk <;> first | (cases hk; done) | skip
   subst he
   cases x <;> cases y <;> rfl
 · rename_i x y
   simp only [Option.some.injEq] at he
   unfold jA at hk
   split at hk <;> first | (cases hk; done) | skip
   subst he
   simp only [Instr.sameNow, eqStr, beq_toListBytes]
theorem Un {kc : Nat} {d : TypeDesc} (hk : jA d = some kc) : ∀ {es : List (Value × Value × Nat)} {cG : List MapEntry} {x x' : Value} {kk : Option Value → Bool} (i : Nat), ER φ es cG → VR φ x x' → uR kc es x kk = true →
 (kk none = true ∧ Instr.findNow d x' cG i = some none) ∨ ∃ v v' j, kk (some v) = true ∧ VR φ v v' ∧ Instr.findNow d x' cG i = some (some (j, v'))
 | _, _, x, x', kk, i, .nil, hx, h => .inl ⟨h, rfl⟩
 | _, _, x, x', kk, i, .cons a v b e l l' ha hv hb hl, hx, h => by
  unfold uR at h
  split at h
  · rename_i he
    obtain ⟨rfl, h2⟩ := Ai hx ha he
    exact .inr ⟨v, e.val, i, h, hv, by simp [Instr.findNow, h2, xN hk he]⟩
  · rename_i he
    obtain ⟨h1, h2⟩ := Ai hx ha he
    rcases Un hk (i + 1) hl hx h with ⟨q1, q2⟩ | ⟨v1, v2, j, q1, q2, q3⟩
    · exact .inl ⟨q1, by subst h1; simp [Instr.findNow, h2, xN hk he, q2]⟩
    · exact .inr ⟨v1, v2, j, q1, q2, by subst h1; simp [Instr.findNow, h2, xN hk he, q3]⟩
  · cases h
theorem Uo {kc : Nat} {d : TypeDesc} {t : TypeId} {x : Value} {b : Bool} (hu : P.underlying t = some d) (hk : jA d = some kc) : (Instr.checkKey b 10000 t x).run P w = .ok () w := by
 rw [show (10000 : Nat) = 9999 + 1 from rfl]
 unfold Instr.checkKey
 simp only [Sem.run_bind, run_underlying hu, Result.andThen_ok]
 unfold jA at hk
 split at hk <;> first | (cases hk; done) | skip
 all_goals (cases x <;> rfl)
theorem adI {t kt e' : TypeId} {m x : Operand} {kc : Nat} {z : Value} {ok : Bool} (ho : o.op = .lookup t m x ok) (ht : P.underlying t = some (.map kt e')) (hk : (P.underlying kt).bind jA = some kc) (hz : zeroOf P e' = some z)
 (H : HR P w0 φ h w) (hv : LR φ vs ([m, x].map ρ)) (e : Mb kc z ok vs h k = true) : PR P w0 φ h ((execOp ρ o).run P w) fun v h' => k v h' = true := by
 obtain ⟨i, hi, hz, fi⟩ := nM hz
 obtain ⟨d, hd, Aj⟩ : ∃ d, P.underlying kt = some d ∧ jA d = some kc := by
  cases hu : P.underlying kt with
  | none => simp [hu] at hk
  | some d => exact ⟨d, rfl, by simpa [hu] using hk⟩
 obtain ⟨p, q, ar, e1⟩ := gQ e; clear e; subst ar; have e := e1; clear e1
 obtain ⟨p', q', hp, hr, hq⟩ := hv.two
 simp at hp; obtain ⟨e1, e2⟩ := hp; subst e1 e2
 obtain ⟨_, e1⟩ := cj e
 have fin : ∀ {ov : Option Value} {es : Array MapEntry}, FL z ok h k ov = true →
  ((ρ m = .map none ∧ es = #[]) ∨ ∃ r cl, ρ m = .map (some r) ∧ w.heap[r]? = some (.map es cl)) →
  ((ov = none ∧ Instr.findNow d (ρ x) es.toList 0 = some none) ∨ ∃ v v' j, ov = some v ∧ VR φ v v' ∧ Instr.findNow d (ρ x) es.toList 0 = some (some (j, v'))) → PR P w0 φ h ((execOp ρ o).run P w) fun v h' => k v h' = true := by
  intro ov es q1 q2 q3
  have rh : ∀ b, (Instr.checkKey b 10000 kt (ρ x)).run P w = .ok () w := fun b => Uo hd Aj
  rcases q3 with ⟨rfl, q3⟩ | ⟨v, v', j, rfl, q4, q3⟩
  · have hf := run_findKey (P := P) (w := w) hd q3
    have cg : (execOp ρ o).run P w = .ok (.value (if ok = true then .tuple #[z, .bool false] else z)) w := by
     rcases q2 with ⟨q2, rfl⟩ | ⟨r, cl, q2, q5⟩
     · simp only [execOp, ho, Instr.lookup, Sem.run_bind, run_underlying ht, Result.andThen_ok, q2]
       simp [rh, hf, pQ hi hz]
     · simp only [execOp, ho, Instr.lookup, Sem.run_bind, run_underlying ht, Result.andThen_ok, q2]
       simp [getObj, Sem.run, q5, rh, hf, pQ hi hz]
    cases ok with
    | true => exact .same H cg (.gg _ _ (.cons _ _ _ _ (oK fi) (.cons _ _ _ _ (.bool _) .nil))) q1
    | false => exact .same H cg (oK fi) q1
  · have hf := run_findKey (P := P) (w := w) hd q3
    have cg : (execOp ρ o).run P w = .ok (.value (if ok = true then .tuple #[v', .bool true] else v')) w := by
     rcases q2 with ⟨q2, rfl⟩ | ⟨r, cl, q2, q5⟩
     · simp only [execOp, ho, Instr.lookup, Sem.run_bind, run_underlying ht, Result.andThen_ok, q2]
       simp [rh, hf]
     · simp only [execOp, ho, Instr.lookup, Sem.run_bind, run_underlying ht, Result.andThen_ok, q2]
       simp [getObj, Sem.run, q5, rh, hf]
    cases ok with
    | true => exact .same H cg (.gg _ _ (.cons _ _ _ _ q4 (.cons _ _ _ _ (.bool _) .nil))) q1
    | false => exact .same H cg q4 q1
 rcases FM e1 with ⟨ar, e2⟩ | ⟨r, ar, e2⟩ <;> subst ar
 · exact fin (es := #[]) e2 (.inl ⟨hr.Mc, rfl⟩) (.inl ⟨rfl, rfl⟩)
 · obtain ⟨r', hx, hs, oL⟩ := hr.FN
   obtain ⟨es, cl, g1, g2⟩ := uS e2
   obtain ⟨dd, n, cG, _, m2, m3, _⟩ := H.Md hs oL g1
   rcases Un Aj 0 m3 hq g2 with ⟨q1, q2⟩ | ⟨v1, v2, j, q1, q2, q3⟩
   · exact fin q1 (.inr ⟨r', cl, hx, m2⟩) (.inl ⟨rfl, q2⟩)
   · exact fin q1 (.inr ⟨r', cl, hx, m2⟩) (.inr ⟨v1, v2, j, rfl, q2, q3⟩)
end
end Go.Ve
namespace Go.Ve
open Go.RowKit
open Go.MapKept (run_findKey bytes_beq)
section
variable {P : Program} {w0 w : World} {φ : aK} {h : AH} {ρ : Operand → Value} {o : Oper} {vs : List Value} {k : KV}
theorem adJ {kc : Nat} {a b : Value} (he : lh kc a b = some true) : a = b := by
 unfold lh at he
 split at he <;> first | (cases he; done) | skip
 · rename_i k1 x k2 y
   cases ef : fM k1 k2 with
   | false => rw [ef] at he; cases he
   | true =>
    rw [ef] at he
    simp only [cond_true, Option.some.injEq, rf, beq_iff_eq] at he
    rw [mW ef, he]
 · rename_i x y
   cases x <;> cases y <;> first | rfl | (simp at he)
 · rename_i x y
   simp only [Option.some.injEq, eqStr] at he
   rw [← beq_toListBytes] at he
   rw [(bytes_beq x y).1 he]
theorem adK {kc : Nat} {x x' : Value} (hx : VR φ x x') (ho : Ak kc x = true) : Instr.sameBits 10000 x' x' = true := by
 rw [show (10000 : Nat) = 9999 + 1 from rfl]
 unfold Ak at ho
 split at ho <;> first | (cases ho; done) | skip
 · rw [hx.gM]; simp [Instr.sameBits]
 · rw [hx.pO]; simp [Instr.sameBits]
 · rw [hx.jB]; simp [Instr.sameBits, bytes_beq]
theorem Up {kc : Nat} {d : TypeDesc} (hk : jA d = some kc) : ∀ {es : List (Value × Value × Nat)} {cG : List MapEntry} {x x' y y' : Value} {cl : Nat} {kk : List (Value × Value × Nat) → Nat → Bool} (i : Nat), ER φ es cG → VR φ x x' → VR φ y y' → nN kc es x y cl kk = true →
 ∃ xP xQ, kk xP xQ = true ∧ ((Instr.findNow d x' cG i = some none ∧ xQ = cl + 1 ∧ ER φ xP (cG ++ [{ key := x', val := y', born := cl }])) ∨
  ∃ j v' e, Instr.findNow d x' cG i = some (some (i + j, v')) ∧ xQ = cl ∧ cG[j]? = some e ∧ e.key = x' ∧ ER φ xP (cG.modify j fun e => { e with key := x', val := y' }))
 | _, _, x, x', y, y', cl, kk, i, .nil, hx, hy, h => by
  simp only [nN, ch] at h
  exact ⟨_, _, h, .inl ⟨rfl, rfl, .cons _ _ _ _ _ _ hx hy rfl .nil⟩⟩
 | _, _, x, x', y, y', cl, kk, i, .cons a v b e l l' ha hv hb hl, hx, hy, h => by
  unfold nN at h
  split at h
  · rename_i he
    obtain ⟨h1, h2⟩ := Ai hx ha he
    have hxa := adJ he
    refine ⟨_, _, h, .inr ⟨0, e.val, e, ?_, rfl, rfl, by rw [h2, h1, hxa], ?_⟩⟩
    · subst h1; simp [Instr.findNow, h2, xN hk he]
    · simp only [List.modify_zero_cons]
      exact .cons _ _ _ _ _ _ hx hy hb hl
  · rename_i he
    obtain ⟨h1, h2⟩ := Ai hx ha he
    obtain ⟨xP, xQ, q1, q2⟩ := Up hk (i + 1) hl hx hy h
    rcases q2 with ⟨q2, q3, q4⟩ | ⟨j, v', e2, q2, q3, q4, q5, q6⟩
    · refine ⟨_, _, q1, .inl ⟨?_, q3, .cons _ _ _ _ _ _ ha hv hb q4⟩⟩
      subst h1; simp [Instr.findNow, h2, xN hk he, q2]
    · refine ⟨_, _, q1, .inr ⟨j + 1, v', e2, ?_, q3, by simpa using q4, q5, ?_⟩⟩
      · subst h1; simp [Instr.findNow, h2, xN hk he, q2]; omega
      · simp only [List.modify_succ_cons]
        exact .cons _ _ _ _ _ _ ha hv hb q6
  · cases h
theorem Uq {t kt e' : TypeId} {m x y : Operand} {kc : Nat} (ho : o.op = .mapUpdate t m x y ∨ o.op = .insert t m x y) (ht : P.underlying t = some (.map kt e')) (hk : (P.underlying kt).bind jA = some kc)
 (H : HR P w0 φ h w) (hv : LR φ vs ([m, x, y].map ρ)) (e : Ur kc vs h k = true) : PR P w0 φ h ((execOp ρ o).run P w) fun v h' => k v h' = true := by
 obtain ⟨d, hd, Aj⟩ : ∃ d, P.underlying kt = some d ∧ jA d = some kc := by
  cases hu : P.underlying kt with
  | none => simp [hu] at hk
  | some d => exact ⟨d, rfl, by simpa [hu] using hk⟩
 obtain ⟨p, q, r, ar, e1⟩ := Us e; clear e; subst ar; have e := e1; clear e1
 obtain ⟨p', q', r', hp, hr, hq, hy⟩ := hv.three
 simp at hp; obtain ⟨e1, e2, e3⟩ := hp; subst e1 e2 e3
 obtain ⟨hko, e1⟩ := cj e
 have adL := adK hq hko
 have cg : ∀ {w' : World}, (Instr.mapUpdate t (ρ m) (ρ x) (ρ y)).run P w = .ok () w' → (execOp ρ o).run P w = .ok .skip w' := by
  intro w' hh
  rcases ho with ho | ho <;> simp [execOp, ho, hh]
 rcases FM e1 with ⟨ar, e2⟩ | ⟨r0, ar, e2⟩ <;> subst ar
 · cases e2
 · obtain ⟨rb, hx, hs, oL⟩ := hr.FN
   obtain ⟨es, cl, g1, g2⟩ := uS e2
   obtain ⟨dd, n, cG, m1, m2, m3, m4⟩ := H.Md hs oL g1
   obtain ⟨xP, xQ, q1, q2⟩ := Up Aj 0 m3 hq hy g2
   obtain ⟨aW, k1, k2⟩ := mY q1
   have rh : (Instr.checkKey false 10000 kt (ρ x)).run P w = .ok () w := Uo hd Aj
   have bW : rb < w.heap.size := (Array.getElem?_eq_some_iff.1 m2).1
   have fin : ∀ {es3 : Array MapEntry}, ER φ xP es3.toList → (Instr.mapUpdate t (ρ m) (ρ x) (ρ y)).run P w = .ok () { w with heap := w.heap.setIfInBounds rb (.map es3 xQ) } → PR P w0 φ h ((execOp ρ o).run P w) fun v h' => k v h' = true := by
    intro es3 q3 q4
    refine ⟨undef, _, undef, _, φ, .inr ⟨cg q4, rfl⟩, k2, Ext.refl _ _, Nat.le_refl _, VR.undef _, ?_⟩
    exact H.jf m1 k1 rfl (.map _ _ _ _ _ q3) m4 (by simp [bW]) (fun k hk => by simp [Ne.symm hk]) (by simp) rfl rfl rfl
   rcases q2 with ⟨q2, rfl, q4⟩ | ⟨j, v', e2, q2, rfl, q4, q5, q6⟩
   · refine fin (es3 := cG.push { key := ρ x, val := ρ y, born := cl }) (by simpa using q4) ?_
     have hf := run_findKey (P := P) (w := w) hd q2
     simp [Instr.mapUpdate, run_underlying ht, hx, getObj, setObj, Sem.run, m2, rh, hf]
   · refine fin (es3 := cG.modify j fun e => { e with key := ρ x, val := ρ y }) (by simpa using q6) ?_
     simp only [Nat.zero_add] at q2
     have hf := run_findKey (P := P) (w := w) hd q2
     have FO : cG[j]? = some e2 := by simpa using q4
     have iU : (Instr.keyThatStays (ρ x) (ρ x)).run P w = .ok (ρ x) w := by simp [Instr.keyThatStays, adL]
     simp [Instr.mapUpdate, run_underlying ht, hx, getObj, setObj, Sem.run, m2, rh, hf, FO, q5, iU]
theorem adM {x : Operand} {xt t : TypeId} {d : TypeDesc} {z : Value} (ho : o.op = .typeAssert x xt t true) (hu : P.underlying t = some d) (hd : ∀ m, d ≠ .interface m) (hz : zeroOf P t = some z) (H : HR P w0 φ h w) (hv : LR φ vs ([x].map ρ)) (e : FP t z vs h k = true) : PR P w0 φ h ((execOp ρ o).run P w) fun v h' => k v h' = true := by
 obtain ⟨i, hi, hz, fi⟩ := nM hz
 obtain ⟨p, ar, e1⟩ := eJ e; clear e; subst ar; have e := e1; clear e1
 obtain ⟨p', hp, hr⟩ := hv.one
 simp at hp; subst hp
 unfold Me at e
 have uT : ∀ v : Value, (execOp ρ o).run P w = ((Instr.typeAssert (ρ x) xt t true).run P w).andThen (fun a w' => .ok (.value a) w') := by intro _; simp [execOp, ho]
 split at e
 · have hx : ρ x = .nilIface := by generalize ρ x = X at hr; cases hr; rfl
   refine .same H (v' := .tuple #[z, .bool false]) ?_ (.gg _ _ (.cons _ _ _ _ (oK fi) (.cons _ _ _ _ (.bool _) .nil))) e
   rw [uT undef, hx]
   simp only [Instr.typeAssert, Sem.run_bind, run_underlying hu, Result.andThen_ok]
   cases d <;> first | (exact absurd rfl (hd _)) | simp [pQ hi hz]
 · rename_i t' v
   obtain ⟨v', hx, Mf⟩ : ∃ v', ρ x = .iface t' v' ∧ VR φ v v' := by generalize ρ x = X at hr; cases hr with | iface _ _ v' h => exact ⟨v', rfl, h⟩
   by_cases Mg : t' = t
   · subst Mg
     rw [kG rfl, cond_true] at e
     refine .same H (v' := .tuple #[v', .bool true]) ?_ (.gg _ _ (.cons _ _ _ _ Mf (.cons _ _ _ _ (.bool _) .nil))) e
     rw [uT undef, hx]
     simp only [Instr.typeAssert, Sem.run_bind, run_underlying hu, Result.andThen_ok]
     cases d <;> first | (exact absurd rfl (hd _)) | simp
   · rw [fg Mg, cond_false] at e
     refine .same H (v' := .tuple #[z, .bool false]) ?_ (.gg _ _ (.cons _ _ _ _ (oK fi) (.cons _ _ _ _ (.bool _) .nil))) e
     rw [uT undef, hx]
     simp only [Instr.typeAssert, Sem.run_bind, run_underlying hu, Result.andThen_ok]
     cases d <;> first | (exact absurd rfl (hd _)) | simp [Mg, pQ hi hz]
 · cases e
theorem adN {x : Operand} {t : TypeId} (ho : o.op = .range t x) (hu : P.underlying t = some .string) (H : HR P w0 φ h w) (hv : LR φ vs ([x].map ρ)) (e : Ut vs h k = true) : PR P w0 φ h ((execOp ρ o).run P w) fun v h' => k v h' = true := by
 obtain ⟨p, ar, e1⟩ := eJ e; clear e; subst ar; have e := e1; clear e1
 obtain ⟨p', hp, hr⟩ := hv.one
 simp at hp; subst hp
 obtain ⟨s, ar, e1⟩ := kJ e; clear e; subst ar; have e := e1; clear e1
 obtain ⟨aW, h1, h2⟩ := sN e
 obtain ⟨g1, g2⟩ := H.newAt (f := h.nx) (o := .mh s 0) (o' := .stringIter s 0) (d := 0) (n := 0) (h' := ⟨h.nx + 1, aW⟩) (H.fresh _ (Nat.le_refl _)) h1.1 (fun g hg _ => h1.2 g hg) (fun g hg => H.fresh g (by simp only at hg; omega)) (fun g hg => by rw [h1.2 g (by simp only at hg; omega)]; exact H.top g (by simp only at hg; omega)) (by simp) _ (Nat.le_refl _) (.mh _ _ _)
 refine ⟨_, _, _, _, _, .inl ?_, h2, g2, by simp, PR.xR, g1⟩
 simp only [execOp, ho, hr.jB]
 simp [run_range_string w t s hu, World.iter]
theorem adO {x : Operand} (ho : o.op = .next x true) (H : HR P w0 φ h w) (hv : LR φ vs ([x].map ρ)) (e : Uu vs h k = true) : PR P w0 φ h ((execOp ρ o).run P w) fun v h' => k v h' = true := by
 obtain ⟨p, ar, e1⟩ := eJ e; clear e; subst ar; have e := e1; clear e1
 obtain ⟨p', hp, hr⟩ := hv.one
 simp at hp; subst hp
 obtain ⟨a, ar, e1⟩ := lj e; clear e; subst ar; have e := e1; clear e1
 obtain ⟨a', hx, hs, cN⟩ := hr.jW
 obtain ⟨h0, e1⟩ := cj e
 have h0 := Nat.eq_of_beq_eq_true h0
 obtain ⟨s, pos, g1, g2⟩ := adP e1
 obtain ⟨b, d, n, o', m1, m2, m3, m4⟩ := H.live hs g1
 obtain ⟨q1, q2, q3⟩ := cN b d n m1
 cases m3
 have FQ : a' = ⟨b, 0, none⟩ := by cases a'; simp_all
 have bW : b < w.heap.size := (Array.getElem?_eq_some_iff.1 m2).1
 unfold Uv at g2
 split at g2
 · rename_i c hc
   have fy : pos < s.size := by
    have : pos < s.data.toList.length := (List.getElem?_eq_some_iff.1 hc).1
    simpa using this
   have fin : ∀ (c n : Nat) (aW : NT AO), Utf8.decode s pos = (c, n) → h.ob.iT a.block (some (.mh s (pos + n))) aW → k (.tuple #[.bool true, .int .i64 (Int.ofNat pos), .int .i32 (Int.ofNat c)]) ⟨h.nx, aW⟩ = true →
    PR P w0 φ h ((execOp ρ o).run P w) fun v h' => k v h' = true := fun c n aW Mh k1 k2 => by
    refine ⟨.tuple #[.bool true, .int .i64 (Int.ofNat pos), .int .i32 (Int.ofNat c)], { w with heap := w.heap.setIfInBounds b (.stringIter s (pos + n)) }, _, _, φ, .inl ?_, k2, Ext.refl _ _, Nat.le_refl _, .gg _ _ (.cons _ _ _ _ (.bool _) (.cons _ _ _ _ (.int _ _) (.cons _ _ _ _ (.int _ _) .nil))), ?_⟩
    · simp [execOp, ho, hx, FQ, Instr.next, getObj, setObj, Sem.run, m2, fy, Mh, goInt]
    · exact H.jf m1 k1 rfl (.mh _ _ _) (m4 rfl) (by simp [bW]) (fun k hk => by simp [Ne.symm hk]) (by simp) rfl rfl rfl
   cases Al : Nat.ble (Nat.succ c.toNat) 128 with
   | true =>
    rw [Al] at g2
    have Al : c.toNat < 128 := Nat.le_of_ble_eq_true Al
    have g3 : fN (Nat.succ pos) (fun pos' => gz h a.block (some (.mh s pos')) fun h => fN c.toNat fun n => k (.tuple ⟨[.bool true, .int .i64 (.ofNat pos), .int .i32 (.ofNat n)]⟩) h) = true := g2
    rw [ch] at g3
    obtain ⟨aW, k1, k2⟩ := mY g3
    rw [ch] at k2
    have eK : s[pos]'fy = c := by
     have h3 : s.data.toList[pos]'(by simpa using fy) = c := (List.getElem?_eq_some_iff.1 hc).2
     have h4 : s.data[pos]'fy = c := by simpa using h3
     exact h4
    have Mh : Utf8.decode s pos = (c.toNat, 1) := by
     rw [decode_ascii s pos fy (by rw [eK]; exact Al), eK]
    exact fin _ _ aW Mh k1 k2
   | false =>
    rw [Al] at g2
    have g3 : gz h a.block (some (.mh s (pos + (Utf8.decode s pos).2))) (fun h => k (.tuple ⟨[.bool true, .int .i64 (.ofNat pos), .int .i32 (.ofNat (Utf8.decode s pos).1)]⟩) h) = true := g2
    obtain ⟨aW, k1, k2⟩ := mY g3
    exact fin _ _ aW rfl k1 k2
 · rename_i hc
   have fy : ¬ pos < s.size := by
    have := List.getElem?_eq_none_iff.1 hc
    simp at this
    have h2 : s.size = s.data.size := rfl
    omega
   refine .same H (v' := .tuple #[.bool false]) ?_ (.gg _ _ (.cons _ _ _ _ (.bool _) .nil)) g2
   simp [execOp, ho, hx, FQ, Instr.next, getObj, setObj, Sem.run, m2, fy]
end
end Go.Ve
namespace Go.Ve
open Go.RowKit
section
variable {P : Program} {w0 w : World} {φ : aK} {h : AH} {ρ : Operand → Value} {o : Oper} {vs : List Value} {k : KV}
theorem Uw (off : Nat) : ∀ (l : List Value) (n : Nat) (cells : Array Value), off + n + l.length ≤ cells.size →
 ((l.zipIdx n).foldl (fun (cs : Array Value) (p : Value × Nat) => cs.setIfInBounds (off + p.2) p.1) cells).toList = cells.toList.take (off + n) ++ l ++ cells.toList.drop (off + n + l.length)
 | [], n, cells, _ => by simp
 | v :: l, n, cells, h => by
  simp only [List.length_cons] at h
  simp only [List.zipIdx_cons, List.foldl_cons]
  rw [Uw off l (n + 1) _ (by simp; omega)]
  simp only [Array.toList_setIfInBounds]
  have := list_seg_step cells.toList (off + n) v l (by simp; omega)
  simp only [List.length_cons]
  rw [← this]
  congr 2
theorem Ux (off : Nat) (v : Value) (cells : Array Value) (h : off + v.cells.size ≤ cells.size) :
 (v.cells.zipIdx.foldl (fun cs (c, j) => cs.setIfInBounds (off + j) c) cells) = (cells.toList.take off ++ v.cells.toList ++ cells.toList.drop (off + v.cells.toList.length)).toArray := by
 apply Array.ext'
 rw [← Array.foldl_toList, Array.toList_zipIdx]
 have := Uw off v.cells.toList 0 cells (by simpa using h)
 simpa using this
theorem FR {place : Nat → Option (Nat × Nat)} : ∀ {ps : List (Nat × Nat)} {parts : List (Nat × Value)} {l l' vs : List Value} {kk : List Value → Bool}, jg l ps vs kk = true → LR φ l l' → LR φ vs (parts.map (·.2)) → parts.map (fun p => place p.1) = ps.map some →
 ∃ r r', kk r = true ∧ LR φ r r' ∧ Instr.fill place l'.toArray parts = some r'.toArray
 | [], parts, l, l', vs, kk, h, hl, hv, hp => by
  have Mi : parts = [] := by cases parts with | nil => rfl | cons _ _ => simp at hp
  subst Mi
  cases vs with
  | cons _ _ => cases h
  | nil => exact ⟨l, l', h, hl, rfl⟩
 | (off, sz) :: ps, parts, l, l', vs, kk, h, hl, hv, hp => by
  cases parts with
  | nil => simp at hp
  | cons part parts =>
   obtain ⟨i, v'⟩ := part
   simp only [List.map_cons, List.cons.injEq] at hp
   cases vs with
   | nil => cases h
   | cons v vs =>
    simp only [List.map_cons] at hv
    cases hv with | cons _ _ _ _ ri mZ =>
    have h' : (bif iJ (cellsOf v) sz then nO l off (cellsOf v) fun l' => jg l' ps vs kk else false) = true := h
    cases hle : iJ (cellsOf v) sz with
    | false => rw [hle] at h'; cases h'
    | true =>
     rw [hle, cond_true] at h'
     have eU := FU _ hle
     rw [xS] at eU h'
     obtain ⟨h1, h2⟩ := Uy l h'
     have hc := VR.cells ri
     have jX := hc.length
     have kK := hl.length
     have adQ : LR φ (l.take off ++ v.cells.toList ++ l.drop (off + v.cells.toList.length)) (l'.take off ++ v'.cells.toList ++ l'.drop (off + v'.cells.toList.length)) := by
      rw [← jX]
      exact LR.append (hl.drop _) (LR.append hc (hl.take off))
     obtain ⟨r, r', q1, q2, q3⟩ := FR h1 adQ mZ hp.2
     refine ⟨r, r', q1, q2, ?_⟩
     have xT : v'.cells.size = sz := by rw [← eU, jX]; simp
     have q7 : ¬ (off + v'.cells.size > l'.toArray.size) := by simp; rw [xT]; omega
     simp only [Instr.fill, hp.1]
     rw [if_neg (by simp [xT]; simp at q7; rw [xT] at q7; omega)]
     rw [Ux off v' l'.toArray (by simp at q7; simp; omega)]
     exact q3
def xU : List Value → List Value
 | [] => []
 | v :: vs => v.cells.toList ++ xU vs
theorem Uz : ∀ {ss : List Nat} {vs : List Value} {kk : List Value → Bool}, uU ss vs kk = true → kk (xU vs) = true ∧ vs.map (fun v => v.cells.size) = ss
 | [], vs, kk, h => by
  obtain ⟨rfl, h⟩ := sO (show a0 vs (kk []) = true from h)
  exact ⟨h, rfl⟩
 | n :: ss, vs, kk, h => by
  cases vs with
  | nil => cases h
  | cons v vs =>
   obtain ⟨h1, h2⟩ := cj (show iff (iJ (cellsOf v) n) (uU ss vs fun l => iv (cellsOf v) l kk) = true from h)
   obtain ⟨h3, h4⟩ := Uz h2
   have := q8 _ _ h3
   rw [xS] at this
   have hs := FU _ h1
   rw [xS] at hs
   exact ⟨this, by simp [h4]; simpa using hs⟩
theorem UA : ∀ {vs iy : List Value}, LR φ vs iy → LR φ (xU vs) (xU iy)
 | _, _, .nil => .nil
 | _, _, .cons _ _ _ _ h hl => LR.append (UA hl) (VR.cells h)
theorem LR.uO : ∀ {vs iy : List Value}, LR φ vs iy → vs.map (fun v => v.cells.size) = iy.map (fun v => v.cells.size)
 | _, _, .nil => rfl
 | _, _, .cons _ _ _ _ h hl => by
  have := (VR.cells h).length
  simp only [List.map_cons, LR.uO hl]
  congr 1
theorem UB {place : Nat → Option (Nat × Nat)} : ∀ {ps : List (Nat × Nat)} {parts : List (Nat × Value)} {n m : Nat} {done rest : List Value}, sP n ps m = true → parts.map (fun p => place p.1) = ps.map some → parts.map (fun p => p.2.cells.size) = ps.map (·.2) →
 done.length = n → n + rest.length = m → Instr.fill place (done ++ rest).toArray parts = some (done ++ xU (parts.map (·.2))).toArray
 | [], parts, n, m, done, rest, hc, hp, hs, hd, hr => by
  have Mi : parts = [] := by cases parts with | nil => rfl | cons _ _ => simp at hp
  subst Mi
  simp only [sP, beq_iff_eq] at hc
  have : rest = [] := List.eq_nil_of_length_eq_zero (by omega)
  subst this
  rfl
 | (off, sz) :: ps, parts, n, m, done, rest, hc, hp, hs, hd, hr => by
  cases parts with
  | nil => simp at hp
  | cons part parts =>
   obtain ⟨i, v'⟩ := part
   simp only [List.map_cons, List.cons.injEq] at hp hs
   simp only [sP, Bool.and_eq_true, beq_iff_eq] at hc
   obtain ⟨rfl, hc⟩ := hc
   have hm : n + sz ≤ m := by
    have : ∀ (ps : List (Nat × Nat)) (n m : Nat), sP n ps m = true → n ≤ m := by
     intro ps
     induction ps with
     | nil => intro n m h; simp only [sP, beq_iff_eq] at h; omega
     | cons p ps ih => intro n m h; obtain ⟨a, b⟩ := p; simp only [sP, Bool.and_eq_true, beq_iff_eq] at h; have := ih _ _ h.2; omega
    exact this _ _ _ hc
   have xT : v'.cells.size = sz := hs.1
   simp only [Instr.fill, hp.1]
   rw [if_neg (by simp [xT]; omega)]
   rw [Ux n v' _ (by simp; omega)]
   have e1 : List.take n (done ++ rest).toArray.toList ++ v'.cells.toList ++ List.drop (n + v'.cells.toList.length) (done ++ rest).toArray.toList = (done ++ v'.cells.toList) ++ rest.drop sz := by
    have nP : v'.cells.toList.length = sz := by simpa using xT
    simp only [nP]
    rw [List.take_append_of_le_length (by omega), List.take_of_length_le (by omega)]
    congr 1
    rw [List.drop_append]
    simp [hd]
   rw [e1]
   have := UB (place := place) (done := done ++ v'.cells.toList) (rest := rest.drop sz) hc hp.2 hs.2 (by simp; omega) (by simp; omega)
   rw [this]
   simp [xU, List.append_assoc]
theorem run_places : ∀ (fs : List Field), (∀ f ∈ fs, (eE P f.type).isSome = true) → (fs.mapM fun f => (do pure (f.offset, ← sizeOf f.type) : Sem (Nat × Nat))).run P w = .ok (fs.map fun f => (f.offset, (eE P f.type).getD 0)) w
 | [], _ => by simp
 | f :: fs, h => by
  obtain ⟨s, hs⟩ := Option.isSome_iff_exists.1 (h f (by simp))
  obtain ⟨i, hi, rfl⟩ := lk hs
  have ih := run_places fs (fun g hg => h g (by simp [hg]))
  rw [List.mapM_cons]
  simp only [Sem.run_bind, je hi, Result.andThen_ok, Sem.run_pure, ih, List.map_cons, hs, Option.getD_some]
theorem mapM_some {α β : Type} {f : α → Option β} : ∀ {l : List α} {r : List β}, l.mapM f = some r → l.map f = r.map some
 | [], r, h => by simp at h; subst h; rfl
 | a :: l, r, h => by
  simp only [List.mapM_cons, Option.bind_eq_bind, Option.bind_eq_some_iff] at h
  obtain ⟨b, hb, r', hr, e⟩ := h
  simp at e
  subst e
  simp [hb, mapM_some hr]
theorem UC {t : TypeId} {parts : Array (Nat × Operand)} {z : Value} {ps : List (Nat × Nat)} {place : Nat → Option (Nat × Nat)} (hz : zeroOf P t = some z)
 (cg : ∀ {cells : Array Value}, Instr.fill place z.cells (parts.map fun (i, x) => (i, ρ x)).toList = some cells → (execOp ρ o).run P w = .ok (.value (.agg cells)) w)
 (fy : parts.toList.map (fun p => place p.1) = ps.map some) (H : HR P w0 φ h w) (hv : LR φ vs ((parts.toList.map (·.2)).map ρ)) (e : (uV z.cells.toList ps).ev vs h k = true) : PR P w0 φ h ((execOp ρ o).run P w) fun v h' => k v h' = true := by
 obtain ⟨i, hi, mm, fi⟩ := nM hz
 have na : (parts.map fun (i, x) => (i, ρ x)).toList.map (fun p => place p.1) = ps.map some := by
  rw [← fy]; simp [Function.comp_def]
 have nP : LR φ vs ((parts.map fun (i, x) => (i, ρ x)).toList.map (·.2)) := by
  simpa [Function.comp_def] using hv
 have pR : LR φ z.cells.toList z.cells.toList := VR.cells (oK fi)
 unfold uV at e
 split at e
 · rename_i hc
   obtain ⟨e1, e2⟩ := Uz (show uU (ps.map (·.2)) vs (fun l => k (.agg ⟨l⟩) h) = true from e)
   have hf := UB (place := place) (done := []) (rest := z.cells.toList) hc na (by rw [← e2, LR.uO nP]; simp) rfl (by simp)
   exact .same H (cg (by simpa using hf)) (.agg _ _ (by simpa using UA nP)) e1
 · obtain ⟨r, r', q1, q2, q3⟩ := FR (place := place) (show jg z.cells.toList ps vs (fun l => k (.agg ⟨l⟩) h) = true from e) pR nP na
   exact .same H (cg (by simpa using q3)) (.agg _ _ (by simpa using q2)) q1
theorem adR {t : TypeId} {parts : Array (Nat × Operand)} {fs : Array Field} {z : Value} {ps : List (Nat × Nat)} (ho : o.op = .build t parts) (hu : P.underlying t = some (.struct fs)) (hz : zeroOf P t = some z) (fV : ∀ f ∈ fs.toList, (eE P f.type).isSome = true)
    (fy : parts.toList.mapM (fun p => (fs[p.1]?).bind fun f => (eE P f.type).map fun s => (f.offset, s)) = some ps) (H : HR P w0 φ h w) (hv : LR φ vs ((parts.toList.map (·.2)).map ρ)) (e : (uV z.cells.toList ps).ev vs h k = true) : PR P w0 φ h ((execOp ρ o).run P w) fun v h' => k v h' = true := by
  obtain ⟨i, hi, mm, fi⟩ := nM hz
  refine UC (place := fun j => (fs.map fun f => (f.offset, (eE P f.type).getD 0))[j]?) hz (fun {cells} hf => ?_) ?_ H hv e
  · have na : (fs.mapM fun f => (do pure (f.offset, ← sizeOf f.type) : Sem (Nat × Nat))).run P w = .ok (fs.map fun f => (f.offset, (eE P f.type).getD 0)) w := by
      rw [Array.mapM_eq_mapM_toList]
      simp only [Sem.run_map, run_places fs.toList fV, Result.andThen_ok]
      congr 1
      apply Array.ext'
      simp
    simp only [execOp, ho, Instr.build, Sem.run_bind, pQ hi mm, Result.andThen_ok, run_underlying hu]
    rw [na]
    simp only [Result.andThen_ok]
    rw [hf]
    simp
  · rw [← mapM_some fy]
    apply List.map_congr_left
    intro p hp
    simp only [Array.getElem?_map]
    cases hfp : fs[p.1]? with
    | none => simp
    | some f =>
      have hm : f ∈ fs.toList := by simpa using Array.mem_of_getElem? hfp
      obtain ⟨s, hs⟩ := Option.isSome_iff_exists.1 (fV f hm)
      simp [hs]
theorem adS {t e' : TypeId} {n s : Nat} {parts : Array (Nat × Operand)} {z : Value} (ho : o.op = .build t parts) (hu : P.underlying t = some (.array n e')) (hz : zeroOf P t = some z) (hs : eE P e' = some s)
 (H : HR P w0 φ h w) (hv : LR φ vs ((parts.toList.map (·.2)).map ρ)) (e : (uV z.cells.toList (parts.toList.map fun p => (p.1 * s, s))).ev vs h k = true) : PR P w0 φ h ((execOp ρ o).run P w) fun v h' => k v h' = true := by
 obtain ⟨i, hi, mm, fi⟩ := nM hz
 obtain ⟨i2, fx, rfl⟩ := lk hs
 refine UC (place := fun j => some (j * i2.size, i2.size)) hz (fun {cells} hf => ?_) ?_ H hv e
 · simp only [execOp, ho, Instr.build, Sem.run_bind, pQ hi mm, Result.andThen_ok, run_underlying hu, je fx]
   rw [hf]
   simp
 · simp [Function.comp_def]
theorem adT {t e' : TypeId} {n s : Nat} {parts : Array (Nat × Operand)} {z : Value} (ho : o.op = .buildSlice t n parts) (hu : P.underlying t = some (.slice e')) (hz : zeroOf P e' = some z) (hs : eE P e' = some s) (hle : n * s ≤ 65536) (lN : z.cells.size = s) (h0 : 0 < s)
    (H : HR P w0 φ h w) (hv : LR φ vs ((parts.toList.map (·.2)).map ρ)) (e : UD e' n (jz n z.cells.toList) (parts.toList.map fun p => (p.1 * s, s)) vs h k = true) : PR P w0 φ h ((execOp ρ o).run P w) fun v h' => k v h' = true := by
  obtain ⟨i, hi, mm, fi⟩ := nM hz
  obtain ⟨i2, fx, q7⟩ := lk hs
  rw [hi] at fx; cases fx
  subst q7
  have na : (parts.map fun (i, x) => (i, ρ x)).toList.map (fun p => some (p.1 * i.size, i.size)) = (parts.toList.map fun p => (p.1 * i.size, i.size)).map some := by simp [Function.comp_def]
  have nP : LR φ vs ((parts.map fun (i, x) => (i, ρ x)).toList.map (·.2)) := by simpa [Function.comp_def] using hv
  obtain ⟨r, r', q1, q2, q3⟩ := FR (place := fun j => some (j * i.size, i.size)) e (LR.FK (VR.cells (oK (φ := φ) fi)) n) nP na
  obtain ⟨oJ, c, aW, k1, k2, k3⟩ := re q1
  obtain ⟨r1, r2⟩ := PR.newRow H q2 k1 k2
  have hm : ((Array.range (n * i.size)).map fun j => z.cells[j % z.cells.size]!) = (jz n z.cells.toList).toArray := by
    apply Array.ext'
    have := Ma z.cells (by omega) n
    rw [← lN]
    simpa [madeCells] using this
  have sQ : Instr.fill (fun j => some (j * i.size, i.size)) (jz n z.cells.toList).toArray (List.map (fun x => (x.fst, ρ x.snd)) parts.toList) = some r'.toArray := by simpa using q3
  have cg : (execOp ρ o).run P w = .ok (.value (.slice (some ⟨w.heap.size, 0, none⟩) n n)) (w.alloc (.cells r'.toArray e')) := by
    have Am : ¬ (16777216 < n * i.size) := by omega
    simp only [execOp, ho, Instr.buildSlice, Sem.run_bind, run_underlying hu, Result.andThen_ok, je hi]
    by_cases mn : n * i.size = 0
    · have Ao : ((Array.range (n * i.size)).map fun j => (#[] : Array Value)[j % (#[] : Array Value).size]!) = (jz n z.cells.toList).toArray := by
        rw [← hm, mn]; simp [Array.range_zero']
      simp [Am, mn]
      simp [mn] at Ao
      rw [Ao]
      rw [sQ]
      simp [newRow, World.alloc_eq]
    · simp [Am, mn, pQ hi mm]
      rw [hm, sQ]
      simp [newRow, World.alloc_eq]
  refine ⟨_, _, _, _, _, .inl cg, k3, r2, by simp, .sl _ _ _ _ _ (by simp [aK.put]) (.inl ⟨by unfold aY; have : n ≤ n * i.size := Nat.le_mul_of_pos_right n h0; omega, rfl, Nat.le_refl _, fun _ b d m hl => ?_⟩), r1⟩
  simp only [aK.iw] at hl
  cases hl
  exact ⟨rfl, rfl, rfl⟩
end
end Go.Ve
