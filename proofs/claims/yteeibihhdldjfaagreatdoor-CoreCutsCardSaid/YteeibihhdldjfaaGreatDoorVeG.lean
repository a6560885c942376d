/- Part 7: VEval, part 9: append, copy, make, maps, strings, composite values. No condition. And what follows it. -/
import Derived.Test.YteeibihhdldjfaaGreatDoorVeF
import Derived.MapKept
set_option linter.unusedVariables false
set_option linter.unusedSimpArgs false
namespace Go.Ve
open Go.RowKit
section
variable {P : Program} {w0 w : World} {φ : Phi} {h : AH} {ρ : Operand → Value} {o : Oper} {vs : List Value} {k : KV}
theorem run_firstCells {x : Value} {x' : Value} {sz : Nat} {kk : Nat → List Value → Bool} (H : HR P w0 φ h w) (hr : VR φ x x') (e : srcK h sz x kk = true) :
    ∃ n xs xs', kk n xs = true ∧ xs.length = n * sz ∧ LR φ xs xs' ∧ (Builtin.lenOf x').run P w = .ok n w ∧ ∀ w', w'.heap = w.heap → (Builtin.firstCells sz n x').run P w' = .ok xs'.toArray w' := by
  unfold srcK at e
  rcases slK_t e with ⟨l0, c0, hsub, e1⟩ | ⟨a, len, cap, hsub, e1⟩ <;> clear e <;> subst hsub
  · obtain ⟨rfl, rfl, hx⟩ := hr.nils_inv
    subst hx
    exact ⟨0, [], [], e1, by simp, .nil, by simp [Builtin.lenOf], fun w' _ => by simp [Builtin.firstCells]⟩
  · obtain ⟨a', cap', hx, hs, hc⟩ := hr.sl_inv
    subst hx
    by_cases hn : len = 0
    · subst hn
      rw [beqT rfl, cond_true] at e1
      exact ⟨0, [], [], e1, by simp, .nil, by simp [Builtin.lenOf], fun w' _ => by simp [Builtin.firstCells, loadCells, loadCellsFrom]⟩
    · rw [beqF hn, cond_false] at e1
      have hat : AtR φ a a' := by
        rcases hc with ⟨h1, h2, h2', h3⟩ | ⟨sz, h1, h2, h3, h4⟩
        · exact h3 (by omega)
        · exact (h4 (by omega)).1
      obtain ⟨lo, hi, ty, rw', c, l, g1, g2, g3, g4, g5, g6⟩ := readAt_t e1
      have g3' : a.off + l.length ≤ hi := by rw [g4]; exact g3
      obtain ⟨l', q1, q2⟩ := H.cells (P := P) hs hat g1 g2 g3' g5
      refine ⟨len, l, l', g6, g4, q1, by simp [Builtin.lenOf], fun w' hw => ?_⟩
      have := q2 w' hw
      rw [g4] at this
      exact this
theorem run_append_in {ats : Array TypeId} {t u e eu ty : TypeId} {i : TypeInfo} (ht : P.underlying t = some (.slice e)) (hu : P.underlying u = some (.slice eu) ∨ P.underlying u = some .string) (hi : P.info? e = some i) (h0 : ats[0]? = some t) (h1 : ats[1]? = some u)
    {a : Option Addr} {sLen sCap n : Nat} {x : Value} {news : List Value} {w2 : World} (hlen : (Builtin.lenOf x).run P w = .ok n w) (hf : (Builtin.firstCells i.size n x).run P w = .ok news.toArray w)
    (hst : (match a with | some b => (storeCells (b.add (sLen * i.size)) news).run P w | none => .ok () w) = .ok () w2) (hroom : sLen + n ≤ sCap) :
    (Builtin.append_ ats ty #[.slice a sLen sCap, x]).run P w = .ok (.slice a (sLen + n) sCap) w2 := by
  have h0' : ats[0]? = some t := h0
  cases a with
  | none =>
    simp only [Result.ok.injEq] at hst
    obtain ⟨_, rfl⟩ := hst
    rcases hu with hu | hu <;> simp [Builtin.append_, h0, h1, run_underlying ht, run_underlying hu, sizeOf, typeInfo, hi, hlen, hroom, hf]
  | some b =>
    rcases hu with hu | hu <;> simp [Builtin.append_, h0, h1, run_underlying ht, run_underlying hu, sizeOf, typeInfo, hi, hlen, hroom, hf, hst]
theorem run_append_new {ats : Array TypeId} {t u e eu ty : TypeId} {i : TypeInfo} {z : Value} (ht : P.underlying t = some (.slice e)) (hu : P.underlying u = some (.slice eu) ∨ P.underlying u = some .string) (hi : P.info? e = some i) (hz : i.zero = some z) (h0 : ats[0]? = some t) (h1 : ats[1]? = some u)
    {a : Option Addr} {sLen sCap n : Nat} {x : Value} {olds news : List Value} (hlen : (Builtin.lenOf x).run P w = .ok n w) (hf : ∀ w', w'.heap = w.heap → (Builtin.firstCells i.size n x).run P w' = .ok news.toArray w')
    (hfo : ∀ w', w'.heap = w.heap → (Builtin.firstCells i.size sLen (.slice a sLen sCap)).run P w' = .ok olds.toArray w') (hg : sCap < sLen + n) (hb : (sLen + n) * i.bytes ≤ 140737488355328) (hsmall : sLen + n ≤ 1048576) :
    ∃ nc, sLen + n ≤ nc ∧ (Builtin.append_ ats ty #[.slice a sLen sCap, x]).run P w = .ok (.slice (some ⟨w.heap.size, 0, none⟩) (sLen + n) nc) (w.drew.alloc (.cells ((olds ++ news).toArray ++ Builtin.zeroCells z.cells (nc - (sLen + n))) e)) := by
  refine ⟨grownCap w (sLen + n) sCap e, grownCap_ge w _ _ _, ?_⟩
  have hn : ¬ (sLen + n ≤ sCap) := by omega
  have h63' : ¬ (9223372036854775807 < ((sLen : Int) + (n : Int))) := by omega
  have hfit := growslice_fits (bytes := i.bytes) hg hb
  have h48' : ¬ (281474976710656 < Builtin.nextslicecap (sLen + n) sCap * i.bytes) := by omega
  have hf1 := hf w.drew rfl
  have hf2 := hfo w.drew rfl
  rcases hu with hu | hu
  · simp [Builtin.append_, h0, h1, run_underlying ht, run_underlying hu, sizeOf, typeInfo, zeroValue, hi, hz, hlen, hn, h63', h48', Question.forced, hf1, hf2, newRow, grownCap]
    rw [← Array.append_assoc]
    simp
  · simp [Builtin.append_, h0, h1, run_underlying ht, run_underlying hu, sizeOf, typeInfo, zeroValue, hi, hz, hlen, hn, h63', h48', Question.forced, hf1, hf2, newRow, grownCap]
    rw [← Array.append_assoc]
    simp
theorem AtR.add {a a' : Addr} (h : AtR φ a a') (n : Nat) : AtR φ ⟨a.block, a.off + n, none⟩ (a'.add n) := by
  intro b d m hl
  obtain ⟨e1, e2, e3⟩ := h b d m hl
  rw [addr_add a' e3]
  exact ⟨e1, by show a'.off + n + d = a.off + n; omega, rfl⟩
theorem PR.newRowG (H : HR P w0 φ h w) {ty : TypeId} {l l' : List Value} (hl : LR φ l l') {arr : Array Value} (harr : ∀ (j : Nat) (v : Value), l'[j]? = some v → arr[j]? = some v) {c : NT Value} {o : Nat} {ob' : NT AO} (hc : ∀ (j : Nat) (v : Value), l[j]? = some v → c.get (o + j) = some v)
    (hset : h.ob.IsSet h.nx (some (.cells o (o + l.length) ty true c)) ob') :
    HR P w0 (φ.put h.nx (.live w.heap.size o arr.size)) ⟨h.nx + 1, ob'⟩ (w.alloc (.cells arr ty)) ∧ Ext h.nx φ (φ.put h.nx (.live w.heap.size o arr.size)) := by
  refine H.newAt (H.fresh _ (Nat.le_refl _)) hset.1 (fun g hg _ => hset.2 g hg) (fun g hg => H.fresh g (by simp only at hg; omega)) (fun g hg => by rw [hset.2 g (by simp only at hg; omega)]; exact H.top g (by simp only at hg; omega)) (by simp) _ (Nat.le_refl _) ?_
  refine .cells _ _ _ _ _ _ _ _ _ (fun _ => rfl) (Nat.le_refl _) rfl fun p hp1 hp2 => ?_
  obtain ⟨j, rfl⟩ : ∃ j, p = o + j := ⟨p - o, by omega⟩
  have hj : j < l.length := by omega
  obtain ⟨u, hu, hr⟩ := LR.get hl j _ (List.getElem?_eq_getElem hj)
  exact ⟨l[j], u, hc j _ (List.getElem?_eq_getElem hj), by rw [show o + j - o = j by omega]; exact harr j u hu, hr⟩
theorem HR.drew (H : HR P w0 φ h w) : HR P w0 φ h w.drew := H.world rfl rfl rfl rfl
theorem PR.appended {r : Result Next} (H : HR P w0 φ h w) {ty : TypeId} {l l' : List Value} {z : Value} {sz n nc o : Nat} (hsz : 0 < sz) (hz : z.cells.size = sz) (hl : LR φ l l') (hlen : l.length = n * sz) (hnc : n ≤ nc) {c : NT Value} {ob' : NT AO}
    (hc : ∀ (j : Nat) (v : Value), l[j]? = some v → c.get (o + j) = some v) (hset : h.ob.IsSet h.nx (some (.cells o (o + l.length) ty true c)) ob') {k : KV} (e : k (.slice (some ⟨h.nx, o, none⟩) n (unk + sz)) ⟨h.nx + 1, ob'⟩ = true)
    (hr : r = .ok (.value (.slice (some ⟨w.heap.size, 0, none⟩) n nc)) (w.drew.alloc (.cells (l'.toArray ++ Builtin.zeroCells z.cells (nc - n)) ty))) : PR P w0 φ h r fun v h' => k v h' = true := by
  obtain ⟨g1, g2⟩ := PR.newRowG (P := P) H.drew (arr := l'.toArray ++ Builtin.zeroCells z.cells (nc - n)) hl (fun j v hj => by
    have : j < l'.length := (List.getElem?_eq_some_iff.1 hj).1
    rw [Array.getElem?_append]
    simp [this]
    simpa using (List.getElem?_eq_some_iff.1 hj).2) hc hset
  refine ⟨_, _, _, _, _, .inl hr, e, g2, by simp, .sl _ _ _ _ _ (by simp [Phi.put]) (.inr ⟨sz, rfl, hsz, hnc, fun _ => ⟨fun b d m hl => ?_, fun b d m hl => ?_⟩⟩), g1⟩
  · simp only [Phi.put_same] at hl
    cases hl
    exact ⟨rfl, by show 0 + o = o; omega, rfl⟩
  · simp only [Phi.put_same] at hl
    cases hl
    have h2 := hl.length
    simp only [Array.size_append, List.size_toArray, size_zeroCells, hz]
    rw [← h2, hlen, ← Nat.add_mul]
    show 0 + nc * sz ≤ _
    have : n + (nc - n) = nc := by omega
    rw [this]; omega
theorem HR.someCells (H : HR P w0 φ h w) {a a' : Addr} {lo hi : Nat} {ty : TypeId} {rw : Bool} {c : NT Value} (hs : φ a.block ≠ none) (ha : AtR φ a a') (ho : h.ob.get a.block = some (.cells lo hi ty rw c)) (m : Nat) (h1 : lo ≤ a.off) (h2 : a.off + m ≤ hi) :
    ∃ l l', l.length = m ∧ (∀ j v, l[j]? = some v → c.get (a.off + j) = some v) ∧ LR φ l l' ∧ ∀ w', w'.heap = w.heap → (loadCells a' m).run P w' = .ok l'.toArray w' := by
  obtain ⟨b, d, arr, _, _, _, _, _, _, _, hc, _⟩ := H.at hs ha ho
  let l := (List.range m).map fun j => (c.get (a.off + j)).getD undef
  have hll : l.length = m := by simp [l]
  have hlg : ∀ j v, l[j]? = some v → c.get (a.off + j) = some v := by
    intro j v hj
    have hjm : j < m := by have := (List.getElem?_eq_some_iff.1 hj).1; omega
    obtain ⟨u, u', q1, _, _⟩ := hc (a.off + j) (by omega) (by omega)
    simp [l, hjm, q1] at hj
    rw [q1, hj]
  obtain ⟨l', q1, q2⟩ := H.cells (P := P) hs ha ho h1 (by omega) hlg
  exact ⟨l, l', hll, hlg, q1, fun w' hw => by have := q2 w' hw; rwa [hll] at this⟩
theorem HR.adopt (H : HR P w0 φ h w) {f B d n : Nat} {o : AO} {o' : Obj} {h' : AH} {w' : World} (hf : φ f = none) (hB : ∀ g b d n, φ g = some (.live b d n) → b ≠ B) (hset : h.ob.IsSet f (some o) h'.ob) (hnx : h.nx ≤ h'.nx) (hnf : f < h'.nx) (N : Nat) (hN : N ≤ f)
    (ho : OR P φ d n o o') (hb : w0.heap.size ≤ B) (h1 : w'.heap[B]? = some o') (h2 : ∀ k, k ≠ B → w'.heap[k]? = w.heap[k]?) (h3 : w'.heap.size = w.heap.size) (h4 : w'.os = w.os) (h5 : w'.tape = w.tape) (h6 : w'.output = w.output) :
    HR P w0 (φ.put f (.live B d n)) h' w' ∧ Ext N φ (φ.put f (.live B d n)) := by
  have hE : Ext N φ (φ.put f (.live B d n)) := Phi.put_new φ _ hf hN
  have key : ∀ g b e m, (φ.put f (.live B d n)) g = some (.live b e m) → (g = f ∧ b = B ∧ e = d ∧ m = n) ∨ (g ≠ f ∧ φ g = some (.live b e m) ∧ b ≠ B) := by
    intro g b e m hg
    by_cases hgf : g = f
    · subst hgf; rw [Phi.put_same] at hg; cases hg; exact .inl ⟨rfl, rfl, rfl, rfl⟩
    · rw [Phi.put_other _ _ hgf] at hg
      exact .inr ⟨hgf, hg, hB g b e m hg⟩
  refine ⟨⟨?_, ?_, fun g hg => by rw [hset.2 g (by omega)]; exact H.top g (by omega), ?_, ?_, ?_⟩, hE⟩
  · intro g g' b e e' m m' hwb hg hg'
    rcases key g b e m hg with ⟨a1, a2, _⟩ | ⟨a1, a2, a3⟩ <;> rcases key g' b e' m' hg' with ⟨b1, b2, _⟩ | ⟨b1, b2, b3⟩
    · rw [a1, b1]
    · exact absurd a2 b3
    · exact absurd b2 a3
    · exact H.inj g g' b e e' m m' hwb a2 b2
  · intro g hg
    rw [Phi.put_other _ _ (by omega)]
    exact H.fresh g (by omega)
  · intro g hg
    by_cases hgf : g = f
    · subst hgf; rw [Phi.put_same] at hg; cases hg
    · rw [Phi.put_other _ _ hgf] at hg
      rw [hset.2 g hgf]
      exact H.dead g hg
  · intro g b e m hg
    rcases key g b e m hg with ⟨rfl, rfl, rfl, rfl⟩ | ⟨a1, a2, a3⟩
    · exact ⟨o, o', hset.1, h1, ho.ext hE, fun _ => hb⟩
    · obtain ⟨o1, o2, q1, q2, q3, q4⟩ := H.obj g b e m a2
      exact ⟨o1, o2, by rw [hset.2 g a1]; exact q1, by rw [h2 b a3]; exact q2, q3.ext hE, q4⟩
  · exact ⟨h4.trans H.below.os, h5.trans H.below.tape, h6.trans H.below.output, by rw [h3]; exact H.below.size, fun k hk => by rw [h2 k (by omega)]; exact H.below.block k hk⟩
theorem row_get (arr : Array Value) (l' : List Value) (off : Nat) (hfit : off + l'.length ≤ arr.size) :
    (List.take off arr.toList ++ l' ++ List.drop (off + l'.length) arr.toList).toArray.size = arr.size ∧
    ∀ p : Nat, (List.take off arr.toList ++ l' ++ List.drop (off + l'.length) arr.toList).toArray[p]? = if p < off then arr[p]? else if p < off + l'.length then l'[p - off]? else arr[p]? := by
  refine ⟨by simp; omega, fun p => ?_⟩
  simp only [List.getElem?_toArray, List.getElem?_append, List.length_take, List.length_append, List.getElem?_take, List.getElem?_drop, Array.getElem?_toList, Array.length_toList]
  have hm : min off arr.size = off := by omega
  rw [hm]
  by_cases q1 : p < off
  · simp [q1, show p < off + l'.length by omega]
  · by_cases q2 : p < off + l'.length
    · simp [q1, q2]
    · simp only [q1, q2, if_false]
      congr 1; omega
theorem LR.one' {l l' : List Value} (hl : LR φ l l') (hone : ∀ v ∈ l, oneCell v = true) : ∀ v ∈ l', v.oneCell' = true := by
  intro v' hv'
  have hlen := hl.length
  obtain ⟨j, hj⟩ := List.getElem?_of_mem hv'
  have hj' : j < l.length := by rw [hlen]; exact (List.getElem?_eq_some_iff.1 hj).1
  obtain ⟨u, hu, hr⟩ := LR.get hl j _ (List.getElem?_eq_getElem hj')
  rw [hj] at hu; cases hu
  exact hr.oneCell (hone _ (List.getElem_mem hj'))
theorem app_core {c : Call} {t u e' eu : TypeId} {i : TypeInfo} {z : Value} {p p' q' : Value} {n : Nat} {xs xs' : List Value} (hrun : ∀ {v' : Value} {w' : World}, (Builtin.append_ c.argTypes o.type #[p', q']).run P w = .ok v' w' → (execOp ρ o).run P w = .ok (.value v') w')
    (h0 : c.argTypes[0]? = some t) (h1 : c.argTypes[1]? = some u) (ht : P.underlying t = some (.slice e')) (hu : P.underlying u = some (.slice eu) ∨ P.underlying u = some .string)
    (hi : P.info? e' = some i) (hz : i.zero = some z) (hby : i.bytes ≤ 65536) (hzs : z.cells.size = i.size) (hsz : 0 < i.size) (H : HR P w0 φ h w) (hr : VR φ p p') (hxl : xs.length = n * i.size) (hxr : LR φ xs xs')
    (hlen : (Builtin.lenOf q').run P w = .ok n w) (hfc : ∀ w', w'.heap = w.heap → (Builtin.firstCells i.size n q').run P w' = .ok xs'.toArray w')
    (e2 : slK p (appNil h e' i.size n xs k) (appSome h e' i.size n xs k) = true) : PR P w0 φ h ((execOp ρ o).run P w) fun v h' => k v h' = true := by
  have hxl' := hxr.length
  have hbound : ∀ m, m ≤ 1048576 → m * i.bytes ≤ 140737488355328 := fun m hm => Nat.le_trans (Nat.mul_le_mul hm hby) (by decide)
  rcases slK_t e2 with ⟨l0, c0, hsub, e3⟩ | ⟨a, len, cap, hsub, e3⟩ <;> subst hsub
  · obtain ⟨rfl, rfl, hx⟩ := hr.nils_inv
    unfold appNil at e3
    by_cases hn : n = 0
    · subst hn
      rw [beqT rfl, cond_true] at e3
      have hxs : xs' = [] := List.eq_nil_of_length_eq_zero (by omega)
      subst hxs
      exact .same H (hrun (by rw [hx]; exact run_append_in ht hu hi h0 h1 (a := none) hlen (hfc w rfl) rfl (by omega))) .nils e3
    · rw [beqF hn, cond_false] at e3
      obtain ⟨hn2, e4⟩ := iff_t e3
      have hn2 := Nat.le_of_ble_eq_true hn2
      obtain ⟨hone, cc, ob', g1, g2, g3⟩ := newCells_t e4
      rw [fN_eq] at g3
      obtain ⟨nc, q1, q2⟩ := run_append_new (P := P) (ty := o.type) ht hu hi hz h0 h1 (a := none) (sLen := 0) (sCap := 0) (olds := []) hlen hfc (fun w' _ => by simp [Builtin.firstCells]) (by omega) (by rw [Nat.zero_add]; exact hbound n hn2) (by omega)
      rw [← hx] at q2
      simp only [Nat.zero_add, List.nil_append] at q1 q2
      exact PR.appended (o := 0) H hsz hzs hxr hxl q1 (fun j v hj => by rw [Nat.zero_add]; exact g1 j v hj) (by rw [Nat.zero_add]; exact g2) g3 (hrun q2)
  · obtain ⟨a', cap', hx, hs, hcap⟩ := hr.sl_inv
    have hlc : len ≤ cap' := by
      rcases hcap with ⟨_, h2, h3, _⟩ | ⟨_, _, _, h3, _⟩ <;> omega
    have hat : 0 < cap' → AtR φ a a' := by
      intro hp
      rcases hcap with ⟨_, h2, h3, h4⟩ | ⟨_, _, _, h3, h4⟩
      · exact h4 (by omega)
      · exact (h4 hp).1
    unfold appSome at e3
    by_cases hn : n = 0
    · subst hn
      rw [beqT rfl, cond_true] at e3
      have hxs : xs' = [] := List.eq_nil_of_length_eq_zero (by omega)
      subst hxs
      refine .same H (hrun (by rw [hx]; exact run_append_in ht hu hi h0 h1 (a := some a') hlen (hfc w rfl) rfl (by omega))) ?_ e3
      exact .sl _ _ _ _ _ hs hcap
    · rw [beqF hn, cond_false, fN_eq] at e3
      obtain ⟨hneed, e4⟩ := iff_t e3
      have hneed : len + n ≤ 1048576 := Nat.le_of_ble_eq_true hneed
      have hold : ∀ {lo hi' : Nat} {ty : TypeId} {rw' : Bool} {cc : NT Value}, h.ob.get a.block = some (.cells lo hi' ty rw' cc) → lo ≤ a.off → a.off + len * i.size ≤ hi' →
          ∃ l l', l.length = len * i.size ∧ (∀ j v, l[j]? = some v → cc.get (a.off + j) = some v) ∧ LR φ l l' ∧ ∀ w', w'.heap = w.heap → (Builtin.firstCells i.size len (.slice (some a') len cap')).run P w' = .ok l'.toArray w' := by
        intro lo hi' ty rw' cc g1 g2 g3
        by_cases hl0 : len = 0
        · subst hl0
          exact ⟨[], [], by simp, fun j v hj => by simp at hj, .nil, fun w' _ => by simp [Builtin.firstCells, loadCells, loadCellsFrom]⟩
        · exact H.someCells (P := P) hs (hat (by omega)) g1 _ g2 g3
      cases hb : Nat.ble unk cap with
      | true =>
        rw [hb, cond_true] at e4
        have hb := Nat.le_of_ble_eq_true hb
        unfold appUnk at e4
        obtain ⟨hcp, e5⟩ := iff_t e4
        have hcp : cap = unk + i.size := Nat.eq_of_beq_eq_true hcp
        obtain ⟨lo, hi', ty, rw', cc, g1, e6⟩ := cellsK_t e5
        obtain ⟨g2, e7⟩ := iff_t e6
        simp only [Bool.and_eq_true] at g2
        obtain ⟨⟨⟨⟨g2, g3⟩, g4⟩, g5⟩, g6⟩ := g2
        subst g2
        obtain rfl := Nat.eq_of_beq_eq_true g3
        have g4 := Nat.le_of_ble_eq_true g4
        have g5 : a.off + len * i.size ≤ hi' := Nat.le_of_ble_eq_true g5
        have hone := allOne_t _ g6
        obtain ⟨ob1, k1, e8⟩ := putK_t e7
        rw [fN_eq] at e8
        obtain ⟨c2, e9, k2, k3⟩ := layK_t _ e8
        rw [fN_eq] at e9
        obtain ⟨ob2, k4, e10⟩ := newK_t e9
        obtain ⟨ol, ol', m1, m2, m3, m4⟩ := hold g1 g4 g5
        have H1 := H.kill (P := P) (w := w) (h' := ⟨h.nx, ob1⟩) hs k1 rfl
        have E1 : Ext h.nx φ (φ.put a.block .dead) := Phi.put_dead φ _ _ hs
        have hcells : ∀ j v, (ol ++ xs)[j]? = some v → c2.get (a.off + j) = some v := by
          intro j v hj
          rw [List.getElem?_append] at hj
          split at hj
          · rename_i hlt
            rw [k3 _ (.inl (by show a.off + j < a.off + len * i.size; omega))]
            exact m2 j v hj
          · have := k2 _ v hj
            rw [← this]; congr 1
            show a.off + j = a.off + len * i.size + (j - ol.length)
            omega
        have hlen2 : (ol ++ xs).length = (len + n) * i.size := by rw [List.length_append, m1, hxl, Nat.add_mul]
        have hset : (⟨h.nx, ob1⟩ : AH).ob.IsSet h.nx (some (.cells a.off (a.off + (ol ++ xs).length) ty true c2)) ob2 := by
          rw [hlen2]; exact k4
        have hLR : LR (φ.put a.block .dead) (ol ++ xs) (ol' ++ xs') := LR.append (LR.ext E1 hxr) (LR.ext E1 m3)
        by_cases hroom : len + n ≤ cap'
        · -- in place
          obtain ⟨sz, q1, q2, q3, q4⟩ : ∃ sz, cap = unk + sz ∧ 0 < sz ∧ len ≤ cap' ∧ (0 < cap' → AtR φ a a' ∧ ∀ b d n, φ a.block = some (.live b d n) → a'.off + cap' * sz ≤ n) := by
            rcases hcap with ⟨h2, _⟩ | h2
            · omega
            · exact h2
          have hsze : sz = i.size := by omega
          subst hsze
          obtain ⟨hat', hbd⟩ := q4 (by omega)
          obtain ⟨B, d, arr, fr, v1, v2, v3, v4, v5, v6, v7, v8, v9⟩ := H.at hs hat' g1
          obtain rfl := v9 rfl
          have hbd := hbd _ _ _ v1
          have hmul : (len + n) * i.size ≤ cap' * i.size := Nat.mul_le_mul hroom (Nat.le_refl _)
          have hmul2 : (len + n) * i.size = len * i.size + n * i.size := Nat.add_mul _ _ _
          have hfit : a'.off + len * i.size + xs'.length ≤ arr.size := by omega
          have hst := run_storeCells_at P B (a'.off + len * i.size) ty xs' 0 arr w v5 (by simpa using hfit) (LR.one' hxr hone)
          simp only [Nat.add_zero] at hst
          obtain ⟨x1, x2⟩ := row_get arr xs' (a'.off + len * i.size) hfit
          generalize hX : (List.take (a'.off + len * i.size) arr.toList ++ xs' ++ List.drop (a'.off + len * i.size + xs'.length) arr.toList).toArray = X at hst x1 x2
          have haddr : a'.add (len * i.size) = ⟨B, a'.off + len * i.size, none⟩ := by rw [addr_add a' v4, v2]
          have hrun2 := run_append_in (P := P) (ty := o.type) ht hu hi h0 h1 (a := some a') (sLen := len) (sCap := cap') hlen (hfc w rfl) (by simp only []; rw [haddr]; exact hst) hroom
          rw [← hx] at hrun2
          have hor : OR P (φ.put a.block .dead) d arr.size (.cells a.off (a.off + (ol ++ xs).length) ty true c2) (.cells X ty (0, 0)) := by
            refine .cells _ _ _ _ _ _ _ _ _ (fun _ => rfl) (by omega) x1.symm fun p p1 p2 => ?_
            rw [hlen2] at p2
            rw [x2]
            by_cases hp : p < a.off + len * i.size
            · obtain ⟨v, v', y1, y2, y3⟩ := v7 p (by omega) (by omega)
              exact ⟨v, v', by rw [k3 p (.inl hp)]; exact y1, by rw [if_pos (by omega)]; exact y2, VR.ext E1 y3⟩
            · obtain ⟨j, rfl⟩ : ∃ j, p = a.off + len * i.size + j := ⟨p - (a.off + len * i.size), by omega⟩
              have hj : j < xs.length := by omega
              obtain ⟨y, y1, y2⟩ := LR.get hxr j _ (List.getElem?_eq_getElem hj)
              refine ⟨xs[j], y, k2 j _ (List.getElem?_eq_getElem hj), ?_, VR.ext E1 y2⟩
              rw [if_neg (by omega), if_pos (by omega), show a.off + len * i.size + j - d - (a'.off + len * i.size) = j by omega]
              exact y1
          obtain ⟨r1, r2⟩ := H1.adopt (P := P) (f := h.nx) (B := B) (h' := ⟨h.nx + 1, ob2⟩) (w' := w.setRow B X) (by rw [Phi.put_other _ _ (fun e => hs (by rw [← e]; exact H.fresh _ (Nat.le_refl _)))]; exact H.fresh _ (Nat.le_refl _))
            (fun g b' d' n' hg hbB => by
              by_cases hga : g = a.block
              · subst hga; rw [Phi.put_same] at hg; cases hg
              · rw [Phi.put_other _ _ hga] at hg
                subst hbB
                exact hga (H.inj g a.block b' d' d n' arr.size (v8 rfl) hg v1)) hset (by simp) (by simp) h.nx (Nat.le_refl _) hor (v8 rfl) (setRow_heap w B arr X ty (0, 0) v5) (fun k hk => by
              unfold World.setRow
              simp only [Array.getElem?_modify]
              rw [if_neg (by omega)]) (by simp) rfl rfl rfl
          refine ⟨_, _, _, _, _, .inl (hrun hrun2), e10, E1.trans r2 (Nat.le_refl _), by simp, .sl _ _ _ _ _ (by simp [Phi.put]) (.inr ⟨i.size, hcp, hsz, hroom, fun _ => ⟨fun b d' m hl => ?_, fun b d' m hl => ?_⟩⟩), r1⟩
          · simp only [Phi.put_same] at hl
            cases hl
            exact ⟨v2, v3, v4⟩
          · simp only [Phi.put_same] at hl
            cases hl
            exact hbd
        · -- anew
          obtain ⟨nc, q1, q2⟩ := run_append_new (P := P) (ty := o.type) ht hu hi hz h0 h1 (a := some a') (sLen := len) (sCap := cap') hlen hfc m4 (by omega) (hbound _ hneed) (by omega)
          rw [← hx] at q2
          have := PR.appended (P := P) (w0 := w0) (o := a.off) H1 hsz hzs hLR hlen2 q1 hcells hset (by rw [hcp] at e10; exact e10) (hrun q2)
          obtain ⟨v', w', v, h', φ', r1, r2, r3, r4, r5, r6⟩ := this
          exact ⟨v', w', v, h', φ', r1, r2, E1.trans r3 (Nat.le_refl _), r4, r5, r6⟩
      | false =>
        rw [hb, cond_false] at e4
        have hcl : cap < unk := by rw [ble_dec] at hb; simpa using hb
        obtain ⟨hce, hat0⟩ : cap' = cap ∧ (0 < cap → AtR φ a a') := by
          rcases hcap with ⟨_, h2, _, h3⟩ | ⟨sz, h2, _⟩
          · exact ⟨h2, h3⟩
          · omega
        cases hb2 : Nat.ble (Nat.add len n) cap with
        | true =>
          rw [hb2, cond_true, fN_eq] at e4
          have hroom : len + n ≤ cap := Nat.le_of_ble_eq_true hb2
          obtain ⟨lo, hi', ty, cc, cc', ob', g1, g2, g3, g4, g5, g6, g7, g8⟩ := writeAt_t e4
          have hat' := (hat0 (by omega)).add (len * i.size)
          obtain ⟨w', q1, q2, _⟩ := H.write (P := P) (a := ⟨a.block, a.off + len * i.size, none⟩) hs hat' g1 g2 g3 hxr g4 g5 g6 g7
          have hrun2 := run_append_in (P := P) (ty := o.type) ht hu hi h0 h1 (a := some a') (sLen := len) (sCap := cap') hlen (hfc w rfl) q1 (by omega)
          rw [← hx] at hrun2
          exact ⟨_, _, _, _, _, .inl (hrun hrun2), g8, Ext.refl _ _, Nat.le_refl _, .sl _ _ _ _ _ hs (.inl ⟨hcl, hce, hroom, hat0⟩), q2⟩
        | false =>
          rw [hb2, cond_false] at e4
          have hnroom : ¬ (len + n ≤ cap) := by rw [ble_dec] at hb2; simpa using hb2
          by_cases hl0 : len = 0
          · subst hl0
            rw [beqT rfl, cond_true] at e4
            obtain ⟨hone, cc, ob', g1, g2, g3⟩ := newCells_t e4
            rw [fN_eq] at g3
            obtain ⟨nc, q1, q2⟩ := run_append_new (P := P) (ty := o.type) ht hu hi hz h0 h1 (a := some a') (sLen := 0) (sCap := cap') (olds := []) hlen hfc (fun w' _ => by simp [Builtin.firstCells, loadCells, loadCellsFrom]) (by omega) (hbound _ hneed) (by omega)
            rw [← hx] at q2
            simp only [Nat.zero_add, List.nil_append] at q1 q2
            refine PR.appended (o := 0) H hsz hzs hxr hxl q1 (fun j v hj => by rw [Nat.zero_add]; exact g1 j v hj) (by rw [Nat.zero_add]; exact g2) ?_ (hrun q2)
            rw [show Nat.add 0 n = n from Nat.zero_add n] at g3
            exact g3
          · rw [beqF hl0, cond_false] at e4
            obtain ⟨lo, hi', ty, rw', cc, ol, g1, g2, g3, g4, g5, g6⟩ := readAt_t e4
            have e5 := appL_t _ _ g6
            obtain ⟨hone, c2, ob', k1, k2, k3⟩ := newCells_t e5
            rw [fN_eq] at k3
            obtain ⟨ol', m3, m4⟩ := H.cells (P := P) hs (hat0 (by omega)) g1 g2 (by rw [g4]; exact g3) g5
            rw [g4] at m4
            obtain ⟨nc, q1, q2⟩ := run_append_new (P := P) (ty := o.type) ht hu hi hz h0 h1 (a := some a') (sLen := len) (sCap := cap') (olds := ol') hlen hfc (fun w' hw => by simp only [Builtin.firstCells]; exact m4 w' hw) (by omega) (hbound _ hneed) (by omega)
            rw [← hx] at q2
            have hlen2 : (ol ++ xs).length = (len + n) * i.size := by rw [List.length_append, g4, hxl, Nat.add_mul]; rfl
            exact PR.appended (o := 0) H hsz hzs (LR.append hxr m3) hlen2 q1 (fun j v hj => by rw [Nat.zero_add]; exact k1 j v hj) (by rw [Nat.zero_add]; exact k2) k3 (hrun q2)
theorem snd_append {c : Call} {s x : Operand} {t u e' eu : TypeId} {i : TypeInfo} {z : Value} (ho : o.op = .call c) (hc : c.callee = .builtin .append) (ha : c.args = #[s, x]) (h0 : c.argTypes[0]? = some t) (h1 : c.argTypes[1]? = some u) (ht : P.underlying t = some (.slice e')) (hu : P.underlying u = some (.slice eu))
    (hi : P.info? e' = some i) (hz : i.zero = some z) (hby : i.bytes ≤ 65536) (hzs : z.cells.size = i.size) (hsz : 0 < i.size) (H : HR P w0 φ h w) (hv : LR φ vs ([s, x].map ρ)) (e : ev_append e' i.size z.cells.toList vs h k = true) : PR P w0 φ h ((execOp ρ o).run P w) fun v h' => k v h' = true := by
  obtain ⟨p, q, hsub, e1⟩ := a2_t e; clear e; subst hsub; have e := e1; clear e1
  obtain ⟨p', q', hp, hr, hq⟩ := hv.two
  simp at hp; obtain ⟨e1, e2⟩ := hp; subst e1 e2
  have hrun : ∀ {v' : Value} {w' : World}, (Builtin.append_ c.argTypes o.type #[ρ s, ρ x]).run P w = .ok v' w' → (execOp ρ o).run P w = .ok (.value v') w' := by
    intro v' w' hh
    rw [run_builtin ho hc]
    simp [builtin, ha, hh]
  obtain ⟨n, xs, xs', e1, hxl, hxr, hlen, hfc⟩ := run_firstCells (P := P) H hq e
  obtain ⟨_, e2⟩ := iff_t e1
  exact app_core (p := p) (p' := ρ s) (q' := ρ x) hrun h0 h1 ht (.inl hu) hi hz hby hzs hsz H hr hxl hxr hlen hfc e2
end
end Go.Ve
namespace Go.Ve
open Go.RowKit
open Go.MapKept (run_findKey sameBits_self IsKey)
section
variable {P : Program} {w0 w : World} {φ : Phi} {h : AH} {ρ : Operand → Value} {o : Oper} {vs : List Value} {k : KV}
theorem snd_max {c : Call} {x y : Operand} (ho : o.op = .call c) (hc : c.callee = .builtin .max) (ha : c.args = #[x, y]) (H : HR P w0 φ h w) (hv : LR φ vs ([x, y].map ρ)) (e : ev_maxI vs h k = true) : PR P w0 φ h ((execOp ρ o).run P w) fun v h' => k v h' = true := by
  obtain ⟨p, q, hsub, e1⟩ := a2_t e; clear e; subst hsub; have e := e1; clear e1
  obtain ⟨p', q', hp, hr, hq⟩ := hv.two
  simp at hp; obtain ⟨e1, e2⟩ := hp; subst e1 e2
  obtain ⟨kx, a, hsub, e1⟩ := intK_t e; clear e; subst hsub; have e := e1; clear e1
  obtain ⟨ky, b, hsub, e1⟩ := intK_t e; clear e; subst hsub; have e := e1; clear e1
  obtain ⟨hk, e1⟩ := iff_t e; clear e
  obtain rfl := eqK_t hk
  rw [ltI_eq] at e1
  have hx := hr.int_inv
  have hy := hq.int_inv
  have hrun : (execOp ρ o).run P w = .ok (.value (.int kx (if b > a then b else a))) w := by
    rw [run_builtin ho hc]
    simp [builtin, ha, hx, hy, run_max_int2]
  refine .same H hrun (.int _ _) ?_
  by_cases hab : a < b
  · rw [if_pos hab]; simpa [hab] using e1
  · rw [if_neg hab]; simpa [hab] using e1
theorem snd_min {c : Call} {x y : Operand} (ho : o.op = .call c) (hc : c.callee = .builtin .min) (ha : c.args = #[x, y]) (H : HR P w0 φ h w) (hv : LR φ vs ([x, y].map ρ)) (e : ev_minI vs h k = true) : PR P w0 φ h ((execOp ρ o).run P w) fun v h' => k v h' = true := by
  obtain ⟨p, q, hsub, e1⟩ := a2_t e; clear e; subst hsub; have e := e1; clear e1
  obtain ⟨p', q', hp, hr, hq⟩ := hv.two
  simp at hp; obtain ⟨e1, e2⟩ := hp; subst e1 e2
  obtain ⟨kx, a, hsub, e1⟩ := intK_t e; clear e; subst hsub; have e := e1; clear e1
  obtain ⟨ky, b, hsub, e1⟩ := intK_t e; clear e; subst hsub; have e := e1; clear e1
  obtain ⟨hk, e1⟩ := iff_t e; clear e
  obtain rfl := eqK_t hk
  rw [ltI_eq] at e1
  have hx := hr.int_inv
  have hy := hq.int_inv
  have hrun : (execOp ρ o).run P w = .ok (.value (.int kx (if b < a then b else a))) w := by
    rw [run_builtin ho hc]
    simp [builtin, ha, hx, hy, run_min_int2]
  refine .same H hrun (.int _ _) ?_
  by_cases hab : b < a
  · rw [if_pos hab]; simpa [hab] using e1
  · rw [if_neg hab]; simpa [hab] using e1
theorem snd_copy {c : Call} {d s : Operand} {t e' : TypeId} {i : TypeInfo} (ho : o.op = .call c) (hc : c.callee = .builtin .copy) (ha : c.args = #[d, s]) (h0 : c.argTypes[0]? = some t) (ht : P.underlying t = some (.slice e'))
    (hi : P.info? e' = some i) (H : HR P w0 φ h w) (hv : LR φ vs ([d, s].map ρ)) (e : ev_copy i.size vs h k = true) : PR P w0 φ h ((execOp ρ o).run P w) fun v h' => k v h' = true := by
  obtain ⟨p, q, hsub, e1⟩ := a2_t e; clear e; subst hsub; have e := e1; clear e1
  obtain ⟨p', q', hp, hr, hq⟩ := hv.two
  simp at hp; obtain ⟨e1, e2⟩ := hp; subst e1 e2
  have hrun : ∀ {v' : Value} {w' : World}, (Builtin.copy_ c.argTypes o.type #[ρ d, ρ s]).run P w = .ok v' w' → (execOp ρ o).run P w = .ok (.value v') w' := by
    intro v' w' hh
    rw [run_builtin ho hc]
    simp [builtin, ha, hh]
  have hat : ∀ {a a' : Addr} {len cap cap' : Nat}, CapR φ a a' len cap cap' → 0 < len → AtR φ a a' := by
    intro a a' len cap cap' hcap hp
    rcases hcap with ⟨_, h2, _, h4⟩ | ⟨_, _, _, h3, h4⟩
    · exact h4 (by omega)
    · exact (h4 (by omega)).1
  rcases slK_t e with ⟨l0, c0, hsub, e3⟩ | ⟨a, len, cap, hsub, e3⟩ <;> clear e <;> subst hsub
  · obtain ⟨rfl, rfl, hx⟩ := hr.nils_inv
    rcases slK_t e3 with ⟨l1, c1, hsub, e4⟩ | ⟨b, len', cap2, hsub, e4⟩ <;> subst hsub
    · obtain ⟨rfl, rfl, hy⟩ := hq.nils_inv
      exact .same H (hrun (by rw [hx, hy]; simp [Builtin.copy_, h0, run_underlying ht, Builtin.lenOf, run_size' hi, Builtin.firstCells, goInt])) (.int _ _) e4
    · obtain ⟨b', cap2', hy, _, _⟩ := hq.sl_inv
      exact .same H (hrun (by rw [hx, hy]; simp [Builtin.copy_, h0, run_underlying ht, Builtin.lenOf, run_size' hi, Builtin.firstCells, goInt, loadCells, loadCellsFrom])) (.int _ _) e4
  · obtain ⟨a', cap', hx, hs, hcap⟩ := hr.sl_inv
    rcases slK_t e3 with ⟨l1, c1, hsub, e4⟩ | ⟨b, len', cap2, hsub, e4⟩ <;> subst hsub
    · obtain ⟨rfl, rfl, hy⟩ := hq.nils_inv
      exact .same H (hrun (by rw [hx, hy]; simp [Builtin.copy_, h0, run_underlying ht, Builtin.lenOf, run_size' hi, Builtin.firstCells, goInt, storeCells])) (.int _ _) e4
    · obtain ⟨b', cap2', hy, hs2, hcap2⟩ := hq.sl_inv
      rw [fN_eq] at e4
      have hmin : (bif Nat.ble len' len then len' else len) = Nat.min len' len := by
        rw [ble_dec]
        by_cases hle : len' ≤ len
        · simp [hle, Nat.min_eq_left hle, Nat.min_def]
        · simp [hle, Nat.min_def]
      rw [hmin] at e4
      by_cases hn : Nat.min len' len = 0
      · rw [hn, beqT rfl, cond_true] at e4
        exact .same H (hrun (by rw [hx, hy]; simp [Builtin.copy_, h0, run_underlying ht, Builtin.lenOf, run_size' hi, Builtin.firstCells, goInt, hn, loadCells, loadCellsFrom, storeCells])) (.int _ _) e4
      · rw [beqF hn, cond_false] at e4
        have hp1 : 0 < len' := by have := Nat.min_le_left len' len; simp only [Nat.min_def] at hn this; split at hn <;> omega
        have hp2 : 0 < len := by simp only [Nat.min_def] at hn; split at hn <;> omega
        obtain ⟨lo, hi', ty, rw', cc, l, g1, g2, g3, g4, g5, g6⟩ := readAt_t e4
        obtain ⟨l', q1, q2⟩ := H.cells (P := P) hs2 (hat hcap2 hp1) g1 g2 (by rw [g4]; exact g3) g5
        obtain ⟨lo2, hi2, ty2, c2, c2', ob', k1, k2, k3, k4, k5, k6, k7, k8⟩ := writeAt_t g6
        obtain ⟨w', r1, r2, _⟩ := H.write (P := P) hs (hat hcap hp2) k1 k2 k3 q1 k4 k5 k6 k7
        have q2' := q2 w rfl
        rw [g4] at q2'
        have q2'' : (loadCells b' (Nat.min len' len * i.size)).run P w = .ok l'.toArray w := q2'
        refine ⟨_, w', _, _, φ, .inl (hrun ?_), k8, Ext.refl _ _, Nat.le_refl _, .int _ _, r2⟩
        rw [hx, hy]
        simp only [Builtin.copy_, h0, Builtin.lenOf]
        simp [run_underlying ht, run_size' hi, Builtin.firstCells, goInt, q2'', r1]
theorem LR.of_app {φ : Phi} {l l' : List Value} (h : LR φ l l') : ∀ n, LR φ (repC n l) (repC n l')
  | 0 => .nil
  | n + 1 => LR.append (LR.of_app h n) h
theorem repK_t : ∀ (n : Nat) {zero : List Value} {k : List Value → Bool}, repK n zero k = true → k (repC n zero) = true
  | 0, zero, k, h => h
  | n + 1, zero, k, h => appL_t _ _ (repK_t n (show repK n zero (fun l => appL zero l k) = true from h))
theorem repC_len (z : List Value) : ∀ n, (repC n z).length = n * z.length
  | 0 => by simp [repC]
  | n + 1 => by simp [repC, repC_len z n, Nat.add_mul]; omega
theorem repC_get (z : List Value) (hz : 0 < z.length) : ∀ (n j : Nat), j < n * z.length → (repC n z)[j]? = z[j % z.length]?
  | 0, j, hj => by omega
  | n + 1, j, hj => by
    simp only [repC, List.getElem?_append]
    by_cases hjl : j < z.length
    · rw [if_pos hjl, Nat.mod_eq_of_lt hjl]
    · rw [if_neg hjl, repC_get z hz n _ (by rw [Nat.add_mul] at hj; omega), Nat.mod_eq_sub_mod (by omega : j ≥ z.length)]
theorem madeCells_eq (z : Array Value) (hz : 0 < z.size) (n : Nat) : (madeCells z (n * z.size)).toList = repC n z.toList := by
  apply List.ext_getElem?
  intro j
  by_cases hj : j < n * z.size
  · rw [repC_get z.toList (by simpa using hz) n j (by simpa using hj)]
    have hm : j % z.size < z.size := Nat.mod_lt _ hz
    simp [madeCells, hj, hm]
  · rw [List.getElem?_eq_none (by simp [madeCells]; omega), List.getElem?_eq_none (by rw [repC_len]; simpa using by omega)]
theorem snd_mkSlice {t e' : TypeId} {x y : Operand} {i : TypeInfo} {z : Value} (ho : o.op = .makeSlice t x y) (ht : P.underlying t = some (.slice e')) (hi : P.info? e' = some i) (hz : i.zero = some z) (hok : okC z = true) (hby : i.bytes ≤ 65536) (hzs : z.cells.size = i.size) (hsz : 0 < i.size)
    (H : HR P w0 φ h w) (hv : LR φ vs ([x, y].map ρ)) (e : ev_mkSlice e' i.size z.cells.toList vs h k = true) : PR P w0 φ h ((execOp ρ o).run P w) fun v h' => k v h' = true := by
  obtain ⟨p, q, hsub, e1⟩ := a2_t e; clear e; subst hsub; have e := e1; clear e1
  obtain ⟨p', q', hp, hr, hq⟩ := hv.two
  simp at hp; obtain ⟨e1, e2⟩ := hp; subst e1 e2
  obtain ⟨kl, l, hsub, e1⟩ := natK_t e; clear e; subst hsub; have e := e1; clear e1
  obtain ⟨kc, c, hsub, e1⟩ := natK_t e; clear e; subst hsub; have e := e1; clear e1
  obtain ⟨g, e1⟩ := iff_t e
  simp only [Bool.and_eq_true] at g
  obtain ⟨⟨g1, g2⟩, g3⟩ := g
  have g1 := Nat.le_of_ble_eq_true g1
  have g2 := Nat.le_of_ble_eq_true g2
  have e2 := repK_t _ e1
  obtain ⟨hone, cc, ob', k1, k2, k3⟩ := newCells_t e2
  have hb : (i.bytes : Int) * (Int.ofNat c) ≤ 281474976710656 := by
    have : i.bytes * c ≤ 65536 * 65536 := Nat.mul_le_mul hby g2
    simp only [Int.ofNat_eq_natCast]
    rw [← Int.natCast_mul]; omega
  have hrun := run_make (P := P) w t e' i z ht hi hz kl kc (Int.ofNat l) (Int.ofNat c) (by simp) (by simp only [Int.ofNat_eq_natCast]; omega) hb (by simp only [Int.ofNat_eq_natCast]; omega)
  have hm : madeCells z.cells (c * i.size) = (repC c z.cells.toList).toArray := by
    apply Array.ext'
    rw [← hzs, madeCells_eq z.cells (by omega) c]
  have hc : (Int.ofNat c).toNat = c := rfl
  have hl : (Int.ofNat l).toNat = l := rfl
  rw [hc, hl, hm] at hrun
  obtain ⟨r1, r2⟩ := PR.newRow H (LR.of_app (VR.cells (okC_VR (φ := φ) hok)) c) k1 k2
  refine ⟨.slice (some ⟨w.heap.size, 0, none⟩) l c, _, _, _, _, .inl (by simp only [execOp, ho, hr.int_inv, hq.int_inv]; simp only [Sem.run_bind, hrun, Result.andThen_ok, Sem.run_pure]), k3, r2, by simp, .sl _ _ _ _ _ (by simp [Phi.put]) (.inl ⟨by unfold unk; omega, rfl, g1, fun _ b d n hl => ?_⟩), r1⟩
  simp only [Phi.put_same] at hl
  cases hl
  exact ⟨rfl, rfl, rfl⟩
theorem sameNow_scal {d : TypeDesc} {kc : Nat} {a b : Value} {r : Bool} (hk : kcOf d = some kc) (he : eqScal kc a b = some r) : Instr.sameNow d a b = some r := by
  unfold eqScal at he
  split at he <;> first | (cases he; done) | skip
  · rename_i k1 x k2 y
    cases hk' : eqK k1 k2 with
    | false => rw [hk'] at he; cases he
    | true =>
      rw [hk'] at he
      simp only [cond_true, Option.some.injEq] at he
      obtain rfl := eqK_t hk'
      unfold kcOf at hk
      split at hk <;> first | (cases hk; done) | skip
      subst he
      simp [Instr.sameNow, eqI_eq]
  · rename_i x y
    simp only [Option.some.injEq] at he
    unfold kcOf at hk
    split at hk <;> first | (cases hk; done) | skip
    subst he
    cases x <;> cases y <;> rfl
  · rename_i x y
    simp only [Option.some.injEq] at he
    unfold kcOf at hk
    split at hk <;> first | (cases hk; done) | skip
    subst he
    simp only [Instr.sameNow, eqStr, beq_toListBytes]
theorem findK_t {kc : Nat} {d : TypeDesc} (hk : kcOf d = some kc) : ∀ {es : List (Value × Value × Nat)} {es' : List MapEntry} {x x' : Value} {kk : Option Value → Bool} (i : Nat), ER φ es es' → VR φ x x' → findK kc es x kk = true →
    (kk none = true ∧ Instr.findNow d x' es' i = some none) ∨ ∃ v v' j, kk (some v) = true ∧ VR φ v v' ∧ Instr.findNow d x' es' i = some (some (j, v'))
  | _, _, x, x', kk, i, .nil, hx, h => .inl ⟨h, rfl⟩
  | _, _, x, x', kk, i, .cons a v b e l l' ha hv hb hl, hx, h => by
    unfold findK at h
    split at h
    · rename_i he
      obtain ⟨rfl, h2⟩ := eqScal_VR hx ha he
      exact .inr ⟨v, e.val, i, h, hv, by simp [Instr.findNow, h2, sameNow_scal hk he]⟩
    · rename_i he
      obtain ⟨h1, h2⟩ := eqScal_VR hx ha he
      rcases findK_t hk (i + 1) hl hx h with ⟨q1, q2⟩ | ⟨v1, v2, j, q1, q2, q3⟩
      · exact .inl ⟨q1, by subst h1; simp [Instr.findNow, h2, sameNow_scal hk he, q2]⟩
      · exact .inr ⟨v1, v2, j, q1, q2, by subst h1; simp [Instr.findNow, h2, sameNow_scal hk he, q3]⟩
    · cases h
theorem run_checkKeyS {kc : Nat} {d : TypeDesc} {t : TypeId} {x : Value} {b : Bool} (hu : P.underlying t = some d) (hk : kcOf d = some kc) : (Instr.checkKey b 10000 t x).run P w = .ok () w := by
  rw [show (10000 : Nat) = 9999 + 1 from rfl]
  unfold Instr.checkKey
  simp only [Sem.run_bind, run_underlying hu, Result.andThen_ok]
  unfold kcOf at hk
  split at hk <;> first | (cases hk; done) | skip
  all_goals (cases x <;> rfl)
theorem snd_lookup {t kt e' : TypeId} {m x : Operand} {kc : Nat} {z : Value} {ok : Bool} (ho : o.op = .lookup t m x ok) (ht : P.underlying t = some (.map kt e')) (hk : (P.underlying kt).bind kcOf = some kc) (hz : zeroOf P e' = some z)
    (H : HR P w0 φ h w) (hv : LR φ vs ([m, x].map ρ)) (e : ev_lookup kc z ok vs h k = true) : PR P w0 φ h ((execOp ρ o).run P w) fun v h' => k v h' = true := by
  obtain ⟨i, hi, hz, hok⟩ := zeroOf_t hz
  obtain ⟨d, hd, hkc⟩ : ∃ d, P.underlying kt = some d ∧ kcOf d = some kc := by
    cases hu : P.underlying kt with
    | none => simp [hu] at hk
    | some d => exact ⟨d, rfl, by simpa [hu] using hk⟩
  obtain ⟨p, q, hsub, e1⟩ := a2_t e; clear e; subst hsub; have e := e1; clear e1
  obtain ⟨p', q', hp, hr, hq⟩ := hv.two
  simp at hp; obtain ⟨e1, e2⟩ := hp; subst e1 e2
  obtain ⟨_, e1⟩ := iff_t e
  have fin : ∀ {ov : Option Value} {es : Array MapEntry}, lookE z ok h k ov = true →
      ((ρ m = .map none ∧ es = #[]) ∨ ∃ r cl, ρ m = .map (some r) ∧ w.heap[r]? = some (.map es cl)) →
      ((ov = none ∧ Instr.findNow d (ρ x) es.toList 0 = some none) ∨ ∃ v v' j, ov = some v ∧ VR φ v v' ∧ Instr.findNow d (ρ x) es.toList 0 = some (some (j, v'))) → PR P w0 φ h ((execOp ρ o).run P w) fun v h' => k v h' = true := by
    intro ov es q1 q2 q3
    have hck : ∀ b, (Instr.checkKey b 10000 kt (ρ x)).run P w = .ok () w := fun b => run_checkKeyS hd hkc
    rcases q3 with ⟨rfl, q3⟩ | ⟨v, v', j, rfl, q4, q3⟩
    · have hf := run_findKey (P := P) (w := w) hd q3
      have hrun : (execOp ρ o).run P w = .ok (.value (if ok = true then .tuple #[z, .bool false] else z)) w := by
        rcases q2 with ⟨q2, rfl⟩ | ⟨r, cl, q2, q5⟩
        · simp only [execOp, ho, Instr.lookup, Sem.run_bind, run_underlying ht, Result.andThen_ok, q2]
          simp [hck, hf, run_zero' hi hz]
        · simp only [execOp, ho, Instr.lookup, Sem.run_bind, run_underlying ht, Result.andThen_ok, q2]
          simp [getObj, Sem.run, q5, hck, hf, run_zero' hi hz]
      cases ok with
      | true => exact .same H hrun (.tup _ _ (.cons _ _ _ _ (okC_VR hok) (.cons _ _ _ _ (.bool _) .nil))) q1
      | false => exact .same H hrun (okC_VR hok) q1
    · have hf := run_findKey (P := P) (w := w) hd q3
      have hrun : (execOp ρ o).run P w = .ok (.value (if ok = true then .tuple #[v', .bool true] else v')) w := by
        rcases q2 with ⟨q2, rfl⟩ | ⟨r, cl, q2, q5⟩
        · simp only [execOp, ho, Instr.lookup, Sem.run_bind, run_underlying ht, Result.andThen_ok, q2]
          simp [hck, hf]
        · simp only [execOp, ho, Instr.lookup, Sem.run_bind, run_underlying ht, Result.andThen_ok, q2]
          simp [getObj, Sem.run, q5, hck, hf]
      cases ok with
      | true => exact .same H hrun (.tup _ _ (.cons _ _ _ _ q4 (.cons _ _ _ _ (.bool _) .nil))) q1
      | false => exact .same H hrun q4 q1
  rcases mpK_t e1 with ⟨hsub, e2⟩ | ⟨r, hsub, e2⟩ <;> subst hsub
  · exact fin (es := #[]) e2 (.inl ⟨hr.nilm_inv, rfl⟩) (.inl ⟨rfl, rfl⟩)
  · obtain ⟨r', hx, hs, hr'⟩ := hr.map_inv
    obtain ⟨es, cl, g1, g2⟩ := mapK_t e2
    obtain ⟨dd, n, es', _, m2, m3, _⟩ := H.mapAt hs hr' g1
    rcases findK_t hkc 0 m3 hq g2 with ⟨q1, q2⟩ | ⟨v1, v2, j, q1, q2, q3⟩
    · exact fin q1 (.inr ⟨r', cl, hx, m2⟩) (.inl ⟨rfl, q2⟩)
    · exact fin q1 (.inr ⟨r', cl, hx, m2⟩) (.inr ⟨v1, v2, j, rfl, q2, q3⟩)
end
end Go.Ve
namespace Go.Ve
open Go.RowKit
open Go.MapKept (run_findKey bytes_beq)
section
variable {P : Program} {w0 w : World} {φ : Phi} {h : AH} {ρ : Operand → Value} {o : Oper} {vs : List Value} {k : KV}
theorem eqScal_true {kc : Nat} {a b : Value} (he : eqScal kc a b = some true) : a = b := by
  unfold eqScal at he
  split at he <;> first | (cases he; done) | skip
  · rename_i k1 x k2 y
    cases hk' : eqK k1 k2 with
    | false => rw [hk'] at he; cases he
    | true =>
      rw [hk'] at he
      simp only [cond_true, Option.some.injEq, eqI_eq, beq_iff_eq] at he
      rw [eqK_t hk', he]
  · rename_i x y
    cases x <;> cases y <;> first | rfl | (simp at he)
  · rename_i x y
    simp only [Option.some.injEq, eqStr] at he
    rw [← beq_toListBytes] at he
    rw [(bytes_beq x y).1 he]
theorem sameBits_key {kc : Nat} {x x' : Value} (hx : VR φ x x') (ho : keyOk kc x = true) : Instr.sameBits 10000 x' x' = true := by
  rw [show (10000 : Nat) = 9999 + 1 from rfl]
  unfold keyOk at ho
  split at ho <;> first | (cases ho; done) | skip
  · rw [hx.int_inv]; simp [Instr.sameBits]
  · rw [hx.bool_inv]; simp [Instr.sameBits]
  · rw [hx.str_inv]; simp [Instr.sameBits, bytes_beq]
theorem updK_t {kc : Nat} {d : TypeDesc} (hk : kcOf d = some kc) : ∀ {es : List (Value × Value × Nat)} {es' : List MapEntry} {x x' y y' : Value} {cl : Nat} {kk : List (Value × Value × Nat) → Nat → Bool} (i : Nat), ER φ es es' → VR φ x x' → VR φ y y' → updK kc es x y cl kk = true →
    ∃ es2 cl2, kk es2 cl2 = true ∧ ((Instr.findNow d x' es' i = some none ∧ cl2 = cl + 1 ∧ ER φ es2 (es' ++ [{ key := x', val := y', born := cl }])) ∨
      ∃ j v' e, Instr.findNow d x' es' i = some (some (i + j, v')) ∧ cl2 = cl ∧ es'[j]? = some e ∧ e.key = x' ∧ ER φ es2 (es'.modify j fun e => { e with key := x', val := y' }))
  | _, _, x, x', y, y', cl, kk, i, .nil, hx, hy, h => by
    simp only [updK, fN_eq] at h
    exact ⟨_, _, h, .inl ⟨rfl, rfl, .cons _ _ _ _ _ _ hx hy rfl .nil⟩⟩
  | _, _, x, x', y, y', cl, kk, i, .cons a v b e l l' ha hv hb hl, hx, hy, h => by
    unfold updK at h
    split at h
    · rename_i he
      obtain ⟨h1, h2⟩ := eqScal_VR hx ha he
      have hxa := eqScal_true he
      refine ⟨_, _, h, .inr ⟨0, e.val, e, ?_, rfl, rfl, by rw [h2, h1, hxa], ?_⟩⟩
      · subst h1; simp [Instr.findNow, h2, sameNow_scal hk he]
      · simp only [List.modify_zero_cons]
        exact .cons _ _ _ _ _ _ hx hy hb hl
    · rename_i he
      obtain ⟨h1, h2⟩ := eqScal_VR hx ha he
      obtain ⟨es2, cl2, q1, q2⟩ := updK_t hk (i + 1) hl hx hy h
      rcases q2 with ⟨q2, q3, q4⟩ | ⟨j, v', e2, q2, q3, q4, q5, q6⟩
      · refine ⟨_, _, q1, .inl ⟨?_, q3, .cons _ _ _ _ _ _ ha hv hb q4⟩⟩
        subst h1; simp [Instr.findNow, h2, sameNow_scal hk he, q2]
      · refine ⟨_, _, q1, .inr ⟨j + 1, v', e2, ?_, q3, by simpa using q4, q5, ?_⟩⟩
        · subst h1; simp [Instr.findNow, h2, sameNow_scal hk he, q2]; omega
        · simp only [List.modify_succ_cons]
          exact .cons _ _ _ _ _ _ ha hv hb q6
    · cases h
theorem snd_mapUpd {t kt e' : TypeId} {m x y : Operand} {kc : Nat} (ho : o.op = .mapUpdate t m x y ∨ o.op = .insert t m x y) (ht : P.underlying t = some (.map kt e')) (hk : (P.underlying kt).bind kcOf = some kc)
    (H : HR P w0 φ h w) (hv : LR φ vs ([m, x, y].map ρ)) (e : ev_mapUpd kc vs h k = true) : PR P w0 φ h ((execOp ρ o).run P w) fun v h' => k v h' = true := by
  obtain ⟨d, hd, hkc⟩ : ∃ d, P.underlying kt = some d ∧ kcOf d = some kc := by
    cases hu : P.underlying kt with
    | none => simp [hu] at hk
    | some d => exact ⟨d, rfl, by simpa [hu] using hk⟩
  obtain ⟨p, q, r, hsub, e1⟩ := a3_t e; clear e; subst hsub; have e := e1; clear e1
  obtain ⟨p', q', r', hp, hr, hq, hy⟩ := hv.three
  simp at hp; obtain ⟨e1, e2, e3⟩ := hp; subst e1 e2 e3
  obtain ⟨hko, e1⟩ := iff_t e
  have hkey := sameBits_key hq hko
  have hrun : ∀ {w' : World}, (Instr.mapUpdate t (ρ m) (ρ x) (ρ y)).run P w = .ok () w' → (execOp ρ o).run P w = .ok .skip w' := by
    intro w' hh
    rcases ho with ho | ho <;> simp [execOp, ho, hh]
  rcases mpK_t e1 with ⟨hsub, e2⟩ | ⟨r0, hsub, e2⟩ <;> subst hsub
  · cases e2
  · obtain ⟨rb, hx, hs, hr'⟩ := hr.map_inv
    obtain ⟨es, cl, g1, g2⟩ := mapK_t e2
    obtain ⟨dd, n, es', m1, m2, m3, m4⟩ := H.mapAt hs hr' g1
    obtain ⟨es2, cl2, q1, q2⟩ := updK_t hkc 0 m3 hq hy g2
    obtain ⟨ob', k1, k2⟩ := putK_t q1
    have hck : (Instr.checkKey false 10000 kt (ρ x)).run P w = .ok () w := run_checkKeyS hd hkc
    have hlt : rb < w.heap.size := (Array.getElem?_eq_some_iff.1 m2).1
    have fin : ∀ {es3 : Array MapEntry}, ER φ es2 es3.toList → (Instr.mapUpdate t (ρ m) (ρ x) (ρ y)).run P w = .ok () { w with heap := w.heap.setIfInBounds rb (.map es3 cl2) } → PR P w0 φ h ((execOp ρ o).run P w) fun v h' => k v h' = true := by
      intro es3 q3 q4
      refine ⟨undef, _, undef, _, φ, .inr ⟨hrun q4, rfl⟩, k2, Ext.refl _ _, Nat.le_refl _, VR.undef _, ?_⟩
      exact H.upd m1 k1 rfl (.map _ _ _ _ _ q3) m4 (by simp [hlt]) (fun k hk => by simp [Ne.symm hk]) (by simp) rfl rfl rfl
    rcases q2 with ⟨q2, rfl, q4⟩ | ⟨j, v', e2, q2, rfl, q4, q5, q6⟩
    · refine fin (es3 := es'.push { key := ρ x, val := ρ y, born := cl }) (by simpa using q4) ?_
      have hf := run_findKey (P := P) (w := w) hd q2
      simp [Instr.mapUpdate, run_underlying ht, hx, getObj, setObj, Sem.run, m2, hck, hf]
    · refine fin (es3 := es'.modify j fun e => { e with key := ρ x, val := ρ y }) (by simpa using q6) ?_
      simp only [Nat.zero_add] at q2
      have hf := run_findKey (P := P) (w := w) hd q2
      have q4' : es'[j]? = some e2 := by simpa using q4
      have hst : (Instr.keyThatStays (ρ x) (ρ x)).run P w = .ok (ρ x) w := by simp [Instr.keyThatStays, hkey]
      simp [Instr.mapUpdate, run_underlying ht, hx, getObj, setObj, Sem.run, m2, hck, hf, q4', q5, hst]
theorem snd_assertTo {x : Operand} {xt t : TypeId} {d : TypeDesc} {z : Value} (ho : o.op = .typeAssert x xt t true) (hu : P.underlying t = some d) (hd : ∀ m, d ≠ .interface m) (hz : zeroOf P t = some z) (H : HR P w0 φ h w) (hv : LR φ vs ([x].map ρ)) (e : ev_assertTo t z vs h k = true) : PR P w0 φ h ((execOp ρ o).run P w) fun v h' => k v h' = true := by
  obtain ⟨i, hi, hz, hok⟩ := zeroOf_t hz
  obtain ⟨p, hsub, e1⟩ := a1_t e; clear e; subst hsub; have e := e1; clear e1
  obtain ⟨p', hp, hr⟩ := hv.one
  simp at hp; subst hp
  unfold assD at e
  have hgo : ∀ v : Value, (execOp ρ o).run P w = ((Instr.typeAssert (ρ x) xt t true).run P w).andThen (fun a w' => .ok (.value a) w') := by intro _; simp [execOp, ho]
  split at e
  · have hx : ρ x = .nilIface := by generalize ρ x = X at hr; cases hr; rfl
    refine .same H (v' := .tuple #[z, .bool false]) ?_ (.tup _ _ (.cons _ _ _ _ (okC_VR hok) (.cons _ _ _ _ (.bool _) .nil))) e
    rw [hgo undef, hx]
    simp only [Instr.typeAssert, Sem.run_bind, run_underlying hu, Result.andThen_ok]
    cases d <;> first | (exact absurd rfl (hd _)) | simp [run_zero' hi hz]
  · rename_i t' v
    obtain ⟨v', hx, hvv⟩ : ∃ v', ρ x = .iface t' v' ∧ VR φ v v' := by generalize ρ x = X at hr; cases hr with | iface _ _ v' h => exact ⟨v', rfl, h⟩
    by_cases htt : t' = t
    · subst htt
      rw [beqT rfl, cond_true] at e
      refine .same H (v' := .tuple #[v', .bool true]) ?_ (.tup _ _ (.cons _ _ _ _ hvv (.cons _ _ _ _ (.bool _) .nil))) e
      rw [hgo undef, hx]
      simp only [Instr.typeAssert, Sem.run_bind, run_underlying hu, Result.andThen_ok]
      cases d <;> first | (exact absurd rfl (hd _)) | simp
    · rw [beqF htt, cond_false] at e
      refine .same H (v' := .tuple #[z, .bool false]) ?_ (.tup _ _ (.cons _ _ _ _ (okC_VR hok) (.cons _ _ _ _ (.bool _) .nil))) e
      rw [hgo undef, hx]
      simp only [Instr.typeAssert, Sem.run_bind, run_underlying hu, Result.andThen_ok]
      cases d <;> first | (exact absurd rfl (hd _)) | simp [htt, run_zero' hi hz]
  · cases e
theorem snd_rangeS {x : Operand} {t : TypeId} (ho : o.op = .range t x) (hu : P.underlying t = some .string) (H : HR P w0 φ h w) (hv : LR φ vs ([x].map ρ)) (e : ev_rangeS vs h k = true) : PR P w0 φ h ((execOp ρ o).run P w) fun v h' => k v h' = true := by
  obtain ⟨p, hsub, e1⟩ := a1_t e; clear e; subst hsub; have e := e1; clear e1
  obtain ⟨p', hp, hr⟩ := hv.one
  simp at hp; subst hp
  obtain ⟨s, hsub, e1⟩ := strK_t e; clear e; subst hsub; have e := e1; clear e1
  obtain ⟨ob', h1, h2⟩ := newK_t e
  obtain ⟨g1, g2⟩ := H.newAt (f := h.nx) (o := .siter s 0) (o' := .stringIter s 0) (d := 0) (n := 0) (h' := ⟨h.nx + 1, ob'⟩) (H.fresh _ (Nat.le_refl _)) h1.1 (fun g hg _ => h1.2 g hg) (fun g hg => H.fresh g (by simp only at hg; omega)) (fun g hg => by rw [h1.2 g (by simp only at hg; omega)]; exact H.top g (by simp only at hg; omega)) (by simp) _ (Nat.le_refl _) (.siter _ _ _)
  refine ⟨_, _, _, _, _, .inl ?_, h2, g2, by simp, PR.newPtr, g1⟩
  simp only [execOp, ho, hr.str_inv]
  simp [run_range_string w t s hu, World.iter]
theorem snd_nextS {x : Operand} (ho : o.op = .next x true) (H : HR P w0 φ h w) (hv : LR φ vs ([x].map ρ)) (e : ev_nextS vs h k = true) : PR P w0 φ h ((execOp ρ o).run P w) fun v h' => k v h' = true := by
  obtain ⟨p, hsub, e1⟩ := a1_t e; clear e; subst hsub; have e := e1; clear e1
  obtain ⟨p', hp, hr⟩ := hv.one
  simp at hp; subst hp
  obtain ⟨a, hsub, e1⟩ := ptrK_t e; clear e; subst hsub; have e := e1; clear e1
  obtain ⟨a', hx, hs, hat⟩ := hr.ptr_inv
  obtain ⟨h0, e1⟩ := iff_t e
  have h0 := Nat.eq_of_beq_eq_true h0
  obtain ⟨s, pos, g1, g2⟩ := siterK_t e1
  obtain ⟨b, d, n, o', m1, m2, m3, m4⟩ := H.live hs g1
  obtain ⟨q1, q2, q3⟩ := hat b d n m1
  cases m3
  have haddr : a' = ⟨b, 0, none⟩ := by cases a'; simp_all
  have hlt : b < w.heap.size := (Array.getElem?_eq_some_iff.1 m2).1
  unfold nextD at g2
  split at g2
  · rename_i c hc
    have hps : pos < s.size := by
      have : pos < s.data.toList.length := (List.getElem?_eq_some_iff.1 hc).1
      simpa using this
    have fin : ∀ (c n : Nat) (ob' : NT AO), Utf8.decode s pos = (c, n) → h.ob.IsSet a.block (some (.siter s (pos + n))) ob' → k (.tuple #[.bool true, .int .i64 (Int.ofNat pos), .int .i32 (Int.ofNat c)]) ⟨h.nx, ob'⟩ = true →
        PR P w0 φ h ((execOp ρ o).run P w) fun v h' => k v h' = true := fun c n ob' hdec k1 k2 => by
      refine ⟨.tuple #[.bool true, .int .i64 (Int.ofNat pos), .int .i32 (Int.ofNat c)], { w with heap := w.heap.setIfInBounds b (.stringIter s (pos + n)) }, _, _, φ, .inl ?_, k2, Ext.refl _ _, Nat.le_refl _, .tup _ _ (.cons _ _ _ _ (.bool _) (.cons _ _ _ _ (.int _ _) (.cons _ _ _ _ (.int _ _) .nil))), ?_⟩
      · simp [execOp, ho, hx, haddr, Instr.next, getObj, setObj, Sem.run, m2, hps, hdec, goInt]
      · exact H.upd m1 k1 rfl (.siter _ _ _) (m4 rfl) (by simp [hlt]) (fun k hk => by simp [Ne.symm hk]) (by simp) rfl rfl rfl
    cases hasc : Nat.ble (Nat.succ c.toNat) 128 with
    | true =>
      rw [hasc] at g2
      have hasc : c.toNat < 128 := Nat.le_of_ble_eq_true hasc
      have g3 : fN (Nat.succ pos) (fun pos' => putK h a.block (some (.siter s pos')) fun h => fN c.toNat fun n => k (.tuple ⟨[.bool true, .int .i64 (.ofNat pos), .int .i32 (.ofNat n)]⟩) h) = true := g2
      rw [fN_eq] at g3
      obtain ⟨ob', k1, k2⟩ := putK_t g3
      rw [fN_eq] at k2
      have hcs : s[pos]'hps = c := by
        have h3 : s.data.toList[pos]'(by simpa using hps) = c := (List.getElem?_eq_some_iff.1 hc).2
        have h4 : s.data[pos]'hps = c := by simpa using h3
        exact h4
      have hdec : Utf8.decode s pos = (c.toNat, 1) := by
        rw [decode_ascii s pos hps (by rw [hcs]; exact hasc), hcs]
      exact fin _ _ ob' hdec k1 k2
    | false =>
      rw [hasc] at g2
      have g3 : putK h a.block (some (.siter s (pos + (Utf8.decode s pos).2))) (fun h => k (.tuple ⟨[.bool true, .int .i64 (.ofNat pos), .int .i32 (.ofNat (Utf8.decode s pos).1)]⟩) h) = true := g2
      obtain ⟨ob', k1, k2⟩ := putK_t g3
      exact fin _ _ ob' rfl k1 k2
  · rename_i hc
    have hps : ¬ pos < s.size := by
      have := List.getElem?_eq_none_iff.1 hc
      simp at this
      have h2 : s.size = s.data.size := rfl
      omega
    refine .same H (v' := .tuple #[.bool false]) ?_ (.tup _ _ (.cons _ _ _ _ (.bool _) .nil)) g2
    simp [execOp, ho, hx, haddr, Instr.next, getObj, setObj, Sem.run, m2, hps]
end
end Go.Ve
namespace Go.Ve
open Go.RowKit
section
variable {P : Program} {w0 w : World} {φ : Phi} {h : AH} {ρ : Operand → Value} {o : Oper} {vs : List Value} {k : KV}
theorem foldl_set (off : Nat) : ∀ (l : List Value) (n : Nat) (cells : Array Value), off + n + l.length ≤ cells.size →
    ((l.zipIdx n).foldl (fun (cs : Array Value) (p : Value × Nat) => cs.setIfInBounds (off + p.2) p.1) cells).toList = cells.toList.take (off + n) ++ l ++ cells.toList.drop (off + n + l.length)
  | [], n, cells, _ => by simp
  | v :: l, n, cells, h => by
    simp only [List.length_cons] at h
    simp only [List.zipIdx_cons, List.foldl_cons]
    rw [foldl_set off l (n + 1) _ (by simp; omega)]
    simp only [Array.toList_setIfInBounds]
    have := list_seg_step cells.toList (off + n) v l (by simp; omega)
    simp only [List.length_cons]
    rw [← this]
    congr 2
theorem fold_splice (off : Nat) (v : Value) (cells : Array Value) (h : off + v.cells.size ≤ cells.size) :
    (v.cells.zipIdx.foldl (fun cs (c, j) => cs.setIfInBounds (off + j) c) cells) = (cells.toList.take off ++ v.cells.toList ++ cells.toList.drop (off + v.cells.toList.length)).toArray := by
  apply Array.ext'
  rw [← Array.foldl_toList, Array.toList_zipIdx]
  have := foldl_set off v.cells.toList 0 cells (by simpa using h)
  simpa using this
theorem fillK_t {place : Nat → Option (Nat × Nat)} : ∀ {ps : List (Nat × Nat)} {parts : List (Nat × Value)} {l l' vs : List Value} {kk : List Value → Bool}, fillK l ps vs kk = true → LR φ l l' → LR φ vs (parts.map (·.2)) → parts.map (fun p => place p.1) = ps.map some →
    ∃ r r', kk r = true ∧ LR φ r r' ∧ Instr.fill place l'.toArray parts = some r'.toArray
  | [], parts, l, l', vs, kk, h, hl, hv, hp => by
    have hpn : parts = [] := by cases parts with | nil => rfl | cons _ _ => simp at hp
    subst hpn
    cases vs with
    | cons _ _ => cases h
    | nil => exact ⟨l, l', h, hl, rfl⟩
  | (off, sz) :: ps, parts, l, l', vs, kk, h, hl, hv, hp => by
    cases parts with
    | nil => simp at hp
    | cons part parts =>
      obtain ⟨i, v'⟩ := part
      simp only [List.map_cons, List.cons.injEq] at hp
      cases vs with
      | nil => cases h
      | cons v vs =>
        simp only [List.map_cons] at hv
        cases hv with | cons _ _ _ _ hv1 hv2 =>
        have h' : (bif lenEq (cellsOf v) sz then spliceK l off (cellsOf v) fun l' => fillK l' ps vs kk else false) = true := h
        cases hle : lenEq (cellsOf v) sz with
        | false => rw [hle] at h'; cases h'
        | true =>
          rw [hle, cond_true] at h'
          have hsz := lenEq_t _ hle
          rw [cellsOf_eq] at hsz h'
          obtain ⟨h1, h2⟩ := spliceK_t l h'
          have hc := VR.cells hv1
          have hcl := hc.length
          have hll := hl.length
          have hnew : LR φ (l.take off ++ v.cells.toList ++ l.drop (off + v.cells.toList.length)) (l'.take off ++ v'.cells.toList ++ l'.drop (off + v'.cells.toList.length)) := by
            rw [← hcl]
            exact LR.append (hl.drop _) (LR.append hc (hl.take off))
          obtain ⟨r, r', q1, q2, q3⟩ := fillK_t h1 hnew hv2 hp.2
          refine ⟨r, r', q1, q2, ?_⟩
          have hs1 : v'.cells.size = sz := by rw [← hsz, hcl]; simp
          have hs2 : ¬ (off + v'.cells.size > l'.toArray.size) := by simp; rw [hs1]; omega
          simp only [Instr.fill, hp.1]
          rw [if_neg (by simp [hs1]; simp at hs2; rw [hs1] at hs2; omega)]
          rw [fold_splice off v' l'.toArray (by simp at hs2; simp; omega)]
          exact q3
def catC : List Value → List Value
  | [] => []
  | v :: vs => v.cells.toList ++ catC vs
theorem joinK_t : ∀ {ss : List Nat} {vs : List Value} {kk : List Value → Bool}, joinK ss vs kk = true → kk (catC vs) = true ∧ vs.map (fun v => v.cells.size) = ss
  | [], vs, kk, h => by
    obtain ⟨rfl, h⟩ := a0_t (show a0 vs (kk []) = true from h)
    exact ⟨h, rfl⟩
  | n :: ss, vs, kk, h => by
    cases vs with
    | nil => cases h
    | cons v vs =>
      obtain ⟨h1, h2⟩ := iff_t (show iff (lenEq (cellsOf v) n) (joinK ss vs fun l => appL (cellsOf v) l kk) = true from h)
      obtain ⟨h3, h4⟩ := joinK_t h2
      have := appL_t _ _ h3
      rw [cellsOf_eq] at this
      have hs := lenEq_t _ h1
      rw [cellsOf_eq] at hs
      exact ⟨this, by simp [h4]; simpa using hs⟩
theorem catC_LR : ∀ {vs vs' : List Value}, LR φ vs vs' → LR φ (catC vs) (catC vs')
  | _, _, .nil => .nil
  | _, _, .cons _ _ _ _ h hl => LR.append (catC_LR hl) (VR.cells h)
theorem LR.sizes : ∀ {vs vs' : List Value}, LR φ vs vs' → vs.map (fun v => v.cells.size) = vs'.map (fun v => v.cells.size)
  | _, _, .nil => rfl
  | _, _, .cons _ _ _ _ h hl => by
    have := (VR.cells h).length
    simp only [List.map_cons, LR.sizes hl]
    congr 1
theorem fill_all {place : Nat → Option (Nat × Nat)} : ∀ {ps : List (Nat × Nat)} {parts : List (Nat × Value)} {n m : Nat} {done rest : List Value}, contig n ps m = true → parts.map (fun p => place p.1) = ps.map some → parts.map (fun p => p.2.cells.size) = ps.map (·.2) →
    done.length = n → n + rest.length = m → Instr.fill place (done ++ rest).toArray parts = some (done ++ catC (parts.map (·.2))).toArray
  | [], parts, n, m, done, rest, hc, hp, hs, hd, hr => by
    have hpn : parts = [] := by cases parts with | nil => rfl | cons _ _ => simp at hp
    subst hpn
    simp only [contig, beq_iff_eq] at hc
    have : rest = [] := List.eq_nil_of_length_eq_zero (by omega)
    subst this
    rfl
  | (off, sz) :: ps, parts, n, m, done, rest, hc, hp, hs, hd, hr => by
    cases parts with
    | nil => simp at hp
    | cons part parts =>
      obtain ⟨i, v'⟩ := part
      simp only [List.map_cons, List.cons.injEq] at hp hs
      simp only [contig, Bool.and_eq_true, beq_iff_eq] at hc
      obtain ⟨rfl, hc⟩ := hc
      have hm : n + sz ≤ m := by
        have : ∀ (ps : List (Nat × Nat)) (n m : Nat), contig n ps m = true → n ≤ m := by
          intro ps
          induction ps with
          | nil => intro n m h; simp only [contig, beq_iff_eq] at h; omega
          | cons p ps ih => intro n m h; obtain ⟨a, b⟩ := p; simp only [contig, Bool.and_eq_true, beq_iff_eq] at h; have := ih _ _ h.2; omega
        exact this _ _ _ hc
      have hs1 : v'.cells.size = sz := hs.1
      simp only [Instr.fill, hp.1]
      rw [if_neg (by simp [hs1]; omega)]
      rw [fold_splice n v' _ (by simp; omega)]
      have e1 : List.take n (done ++ rest).toArray.toList ++ v'.cells.toList ++ List.drop (n + v'.cells.toList.length) (done ++ rest).toArray.toList = (done ++ v'.cells.toList) ++ rest.drop sz := by
        have hvl : v'.cells.toList.length = sz := by simpa using hs1
        simp only [hvl]
        rw [List.take_append_of_le_length (by omega), List.take_of_length_le (by omega)]
        congr 1
        rw [List.drop_append]
        simp [hd]
      rw [e1]
      have := fill_all (place := place) (done := done ++ v'.cells.toList) (rest := rest.drop sz) hc hp.2 hs.2 (by simp; omega) (by simp; omega)
      rw [this]
      simp [catC, List.append_assoc]
theorem run_places : ∀ (fs : List Field), (∀ f ∈ fs, (szOf P f.type).isSome = true) → (fs.mapM fun f => (do pure (f.offset, ← sizeOf f.type) : Sem (Nat × Nat))).run P w = .ok (fs.map fun f => (f.offset, (szOf P f.type).getD 0)) w
  | [], _ => by simp
  | f :: fs, h => by
    obtain ⟨s, hs⟩ := Option.isSome_iff_exists.1 (h f (by simp))
    obtain ⟨i, hi, rfl⟩ := szOf_t hs
    have ih := run_places fs (fun g hg => h g (by simp [hg]))
    rw [List.mapM_cons]
    simp only [Sem.run_bind, run_size' hi, Result.andThen_ok, Sem.run_pure, ih, List.map_cons, hs, Option.getD_some]
theorem mapM_some {α β : Type} {f : α → Option β} : ∀ {l : List α} {r : List β}, l.mapM f = some r → l.map f = r.map some
  | [], r, h => by simp at h; subst h; rfl
  | a :: l, r, h => by
    simp only [List.mapM_cons, Option.bind_eq_bind, Option.bind_eq_some_iff] at h
    obtain ⟨b, hb, r', hr, e⟩ := h
    simp at e
    subst e
    simp [hb, mapM_some hr]
theorem snd_build' {t : TypeId} {parts : Array (Nat × Operand)} {z : Value} {ps : List (Nat × Nat)} {place : Nat → Option (Nat × Nat)} (hz : zeroOf P t = some z)
    (hrun : ∀ {cells : Array Value}, Instr.fill place z.cells (parts.map fun (i, x) => (i, ρ x)).toList = some cells → (execOp ρ o).run P w = .ok (.value (.agg cells)) w)
    (hps : parts.toList.map (fun p => place p.1) = ps.map some) (H : HR P w0 φ h w) (hv : LR φ vs ((parts.toList.map (·.2)).map ρ)) (e : (mkBuild z.cells.toList ps).ev vs h k = true) : PR P w0 φ h ((execOp ρ o).run P w) fun v h' => k v h' = true := by
  obtain ⟨i, hi, hz', hok⟩ := zeroOf_t hz
  have hpl : (parts.map fun (i, x) => (i, ρ x)).toList.map (fun p => place p.1) = ps.map some := by
    rw [← hps]; simp [Function.comp_def]
  have hvl : LR φ vs ((parts.map fun (i, x) => (i, ρ x)).toList.map (·.2)) := by
    simpa [Function.comp_def] using hv
  have hzz : LR φ z.cells.toList z.cells.toList := VR.cells (okC_VR hok)
  unfold mkBuild at e
  split at e
  · rename_i hc
    obtain ⟨e1, e2⟩ := joinK_t (show joinK (ps.map (·.2)) vs (fun l => k (.agg ⟨l⟩) h) = true from e)
    have hf := fill_all (place := place) (done := []) (rest := z.cells.toList) hc hpl (by rw [← e2, LR.sizes hvl]; simp) rfl (by simp)
    exact .same H (hrun (by simpa using hf)) (.agg _ _ (by simpa using catC_LR hvl)) e1
  · obtain ⟨r, r', q1, q2, q3⟩ := fillK_t (place := place) (show fillK z.cells.toList ps vs (fun l => k (.agg ⟨l⟩) h) = true from e) hzz hvl hpl
    exact .same H (hrun (by simpa using q3)) (.agg _ _ (by simpa using q2)) q1
theorem snd_buildS {t : TypeId} {parts : Array (Nat × Operand)} {fs : Array Field} {z : Value} {ps : List (Nat × Nat)} (ho : o.op = .build t parts) (hu : P.underlying t = some (.struct fs)) (hz : zeroOf P t = some z) (hall : ∀ f ∈ fs.toList, (szOf P f.type).isSome = true)
    (hps : parts.toList.mapM (fun p => (fs[p.1]?).bind fun f => (szOf P f.type).map fun s => (f.offset, s)) = some ps) (H : HR P w0 φ h w) (hv : LR φ vs ((parts.toList.map (·.2)).map ρ)) (e : (mkBuild z.cells.toList ps).ev vs h k = true) : PR P w0 φ h ((execOp ρ o).run P w) fun v h' => k v h' = true := by
  obtain ⟨i, hi, hz', hok⟩ := zeroOf_t hz
  refine snd_build' (place := fun j => (fs.map fun f => (f.offset, (szOf P f.type).getD 0))[j]?) hz (fun {cells} hf => ?_) ?_ H hv e
  · have hpl : (fs.mapM fun f => (do pure (f.offset, ← sizeOf f.type) : Sem (Nat × Nat))).run P w = .ok (fs.map fun f => (f.offset, (szOf P f.type).getD 0)) w := by
      rw [Array.mapM_eq_mapM_toList]
      simp only [Sem.run_map, run_places fs.toList hall, Result.andThen_ok]
      congr 1
      apply Array.ext'
      simp
    simp only [execOp, ho, Instr.build, Sem.run_bind, run_zero' hi hz', Result.andThen_ok, run_underlying hu]
    rw [hpl]
    simp only [Result.andThen_ok]
    rw [hf]
    simp
  · rw [← mapM_some hps]
    apply List.map_congr_left
    intro p hp
    simp only [Array.getElem?_map]
    cases hfp : fs[p.1]? with
    | none => simp
    | some f =>
      have hm : f ∈ fs.toList := by simpa using Array.mem_of_getElem? hfp
      obtain ⟨s, hs⟩ := Option.isSome_iff_exists.1 (hall f hm)
      simp [hs]
theorem snd_buildA {t e' : TypeId} {n s : Nat} {parts : Array (Nat × Operand)} {z : Value} (ho : o.op = .build t parts) (hu : P.underlying t = some (.array n e')) (hz : zeroOf P t = some z) (hs : szOf P e' = some s)
    (H : HR P w0 φ h w) (hv : LR φ vs ((parts.toList.map (·.2)).map ρ)) (e : (mkBuild z.cells.toList (parts.toList.map fun p => (p.1 * s, s))).ev vs h k = true) : PR P w0 φ h ((execOp ρ o).run P w) fun v h' => k v h' = true := by
  obtain ⟨i, hi, hz', hok⟩ := zeroOf_t hz
  obtain ⟨i2, hi2, rfl⟩ := szOf_t hs
  refine snd_build' (place := fun j => some (j * i2.size, i2.size)) hz (fun {cells} hf => ?_) ?_ H hv e
  · simp only [execOp, ho, Instr.build, Sem.run_bind, run_zero' hi hz', Result.andThen_ok, run_underlying hu, run_size' hi2]
    rw [hf]
    simp
  · simp [Function.comp_def]
theorem snd_buildSlice {t e' : TypeId} {n s : Nat} {parts : Array (Nat × Operand)} {z : Value} (ho : o.op = .buildSlice t n parts) (hu : P.underlying t = some (.slice e')) (hz : zeroOf P e' = some z) (hs : szOf P e' = some s) (hle : n * s ≤ 65536) (hzs : z.cells.size = s) (h0 : 0 < s)
    (H : HR P w0 φ h w) (hv : LR φ vs ((parts.toList.map (·.2)).map ρ)) (e : ev_buildSlice e' n (repC n z.cells.toList) (parts.toList.map fun p => (p.1 * s, s)) vs h k = true) : PR P w0 φ h ((execOp ρ o).run P w) fun v h' => k v h' = true := by
  obtain ⟨i, hi, hz', hok⟩ := zeroOf_t hz
  obtain ⟨i2, hi2, hs2⟩ := szOf_t hs
  rw [hi] at hi2; cases hi2
  subst hs2
  have hpl : (parts.map fun (i, x) => (i, ρ x)).toList.map (fun p => some (p.1 * i.size, i.size)) = (parts.toList.map fun p => (p.1 * i.size, i.size)).map some := by simp [Function.comp_def]
  have hvl : LR φ vs ((parts.map fun (i, x) => (i, ρ x)).toList.map (·.2)) := by simpa [Function.comp_def] using hv
  obtain ⟨r, r', q1, q2, q3⟩ := fillK_t (place := fun j => some (j * i.size, i.size)) e (LR.of_app (VR.cells (okC_VR (φ := φ) hok)) n) hvl hpl
  obtain ⟨hone, c, ob', k1, k2, k3⟩ := newCells_t q1
  obtain ⟨r1, r2⟩ := PR.newRow H q2 k1 k2
  have hm : ((Array.range (n * i.size)).map fun j => z.cells[j % z.cells.size]!) = (repC n z.cells.toList).toArray := by
    apply Array.ext'
    have := madeCells_eq z.cells (by omega) n
    rw [← hzs]
    simpa [madeCells] using this
  have q3' : Instr.fill (fun j => some (j * i.size, i.size)) (repC n z.cells.toList).toArray (List.map (fun x => (x.fst, ρ x.snd)) parts.toList) = some r'.toArray := by simpa using q3
  have hrun : (execOp ρ o).run P w = .ok (.value (.slice (some ⟨w.heap.size, 0, none⟩) n n)) (w.alloc (.cells r'.toArray e')) := by
    have hbig : ¬ (16777216 < n * i.size) := by omega
    simp only [execOp, ho, Instr.buildSlice, Sem.run_bind, run_underlying hu, Result.andThen_ok, run_size' hi]
    by_cases hn0 : n * i.size = 0
    · have hz0 : ((Array.range (n * i.size)).map fun j => (#[] : Array Value)[j % (#[] : Array Value).size]!) = (repC n z.cells.toList).toArray := by
        rw [← hm, hn0]; simp [Array.range_zero']
      simp [hbig, hn0]
      simp [hn0] at hz0
      rw [hz0]
      rw [q3']
      simp [newRow, World.alloc_eq]
    · simp [hbig, hn0, run_zero' hi hz']
      rw [hm, q3']
      simp [newRow, World.alloc_eq]
  refine ⟨_, _, _, _, _, .inl hrun, k3, r2, by simp, .sl _ _ _ _ _ (by simp [Phi.put]) (.inl ⟨by unfold unk; have : n ≤ n * i.size := Nat.le_mul_of_pos_right n h0; omega, rfl, Nat.le_refl _, fun _ b d m hl => ?_⟩), r1⟩
  simp only [Phi.put_same] at hl
  cases hl
  exact ⟨rfl, rfl, rfl⟩
end
end Go.Ve
