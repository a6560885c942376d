/- Part 5: VEval, part 6: each operation of the evaluator stands for the machine's own, second half. No condition. -/
import Derived.Test.YteeibihhdldjfaaGreatDoorVeD
import Derived.Laws.Build
set_option linter.unusedVariables false
set_option linter.unusedSimpArgs false
namespace Go.Ve
open Go.RowKit
section
variable {P : Program} {w0 w : World} {φ : ak} {h : AH} {ρ : Operand → Value} {o : Oper} {vs : List Value} {k : KV}
theorem aau {op : BinOp} {t u : TypeId} {x y : Operand} (ho : o.op = .binOp op t x y u) (H : HR P w0 φ h w) (hv : LR φ vs ([x, y].map ρ)) (e : Du op vs h k = true) : PR P w0 φ h ((execOp ρ o).run P w) fun v h' => k v h' = true := by
 obtain ⟨p, q, ag, e1⟩ := fF e; clear e; subst ag; have e := e1; clear e1
 obtain ⟨p', q', hp, hr, hq⟩ := hv.two
 simp at hp; obtain ⟨e1, e2⟩ := hp; subst e1 e2
 obtain ⟨a, ag, e1⟩ := jJ e; clear e; subst ag; have e := e1; clear e1
 obtain ⟨b, ag, e1⟩ := jJ e; clear e; subst ag; have e := e1; clear e1
 have hg : (eqGuard op t x y (.string a) (.string b)).run P w = .ok () w := by
  unfold eqGuard
  split <;> simp
 have hx := hr.iD
 have hy := hq.iD
 cases op <;> simp only [Jx] at e <;> first | (cases e; done) | skip
 case eql => rw [gH, eqStr] at e; exact .same H (by simp only [execOp, ho, hx, hy]; simp [hg, binOp, Op.stringOp]) (.bool _) e
 case neq => rw [gH, eqStr] at e; exact .same H (by simp only [execOp, ho, hx, hy]; simp [hg, binOp, Op.stringOp]) (.bool _) e
theorem QE {op : BinOp} {t u : TypeId} {x y : Operand} {ng : Bool} (ho : o.op = .binOp op t x y u) (aM : (op = .eql ∧ ng = false) ∨ (op = .neq ∧ ng = true)) (hu : P.underlying t = some .bool) (H : HR P w0 φ h w) (hv : LR φ vs ([x, y].map ρ)) (e : JK ng vs h k = true) : PR P w0 φ h ((execOp ρ o).run P w) fun v h' => k v h' = true := by
 obtain ⟨p, q, ag, e1⟩ := fF e; clear e; subst ag; have e := e1; clear e1
 obtain ⟨p', q', hp, hr, hq⟩ := hv.two
 simp at hp; obtain ⟨e1, e2⟩ := hp; subst e1 e2
 obtain ⟨a, ag, e1⟩ := yZ e; clear e; subst ag; have e := e1; clear e1
 obtain ⟨b, ag, e1⟩ := yZ e; clear e; subst ag; have e := e1; clear e1
 have hg : (eqGuard op t x y (.bool a) (.bool b)).run P w = .ok () w := by
  unfold eqGuard
  split <;> simp
 have hx := hr.oM
 have hy := hq.oM
 rw [gH] at e
 have heq : (Op.equal t (.bool a) (.bool b)).run P w = .ok (a == b) w := run_equalIn_bool' w 9999 t a b hu
 rcases aM with ⟨rfl, rfl⟩ | ⟨rfl, rfl⟩
 · exact .same H (v := .bool (a == b)) (by simp only [execOp, ho, hx, hy]; simp [hg, binOp, heq]) (.bool _) (by cases a <;> cases b <;> exact e)
 · exact .same H (v := .bool (!(a == b))) (by simp only [execOp, ho, hx, hy]; simp [hg, binOp, heq]) (.bool _) (by cases a <;> cases b <;> exact e)
theorem Us {nk : Nat} {v v' : Value} {b : Bool} (hv : VR φ v v') (h : ic nk v = some b) : ic nk v' = some b := by
 unfold ic at h
 split at h <;> cases h <;> cases hv <;> rfl
theorem aax {x : Operand} {t : TypeId} (ho : o.op = .unOp .neg t x) (H : HR P w0 φ h w) (hv : LR φ vs ([x].map ρ)) (e : JM vs h k = true) : PR P w0 φ h ((execOp ρ o).run P w) fun v h' => k v h' = true := by
 obtain ⟨p, ag, e1⟩ := dO e; clear e; subst ag; have e := e1; clear e1
 obtain ⟨p', hp, hr⟩ := hv.one
 simp at hp; subst hp
 obtain ⟨kd, n, ag, e1⟩ := lk e; clear e; subst ag; have e := e1; clear e1
 have hz : Int.sub (.ofNat 0) n = -n := by show (0 : Int) - n = -n; omega
 rw [ma, wV, hz] at e
 exact .same H (by simp only [execOp, ho, hr.fo]; simp [Op.unary, Op.intArith]) (.int _ _) e
theorem aay {x : Operand} {t : TypeId} (ho : o.op = .unOp .not t x) (H : HR P w0 φ h w) (hv : LR φ vs ([x].map ρ)) (e : JN vs h k = true) : PR P w0 φ h ((execOp ρ o).run P w) fun v h' => k v h' = true := by
 obtain ⟨p, ag, e1⟩ := dO e; clear e; subst ag; have e := e1; clear e1
 obtain ⟨p', hp, hr⟩ := hv.one
 simp at hp; subst hp
 obtain ⟨b, ag, e1⟩ := yZ e; clear e; subst ag; have e := e1; clear e1
 rw [gH] at e
 exact .same H (by simp only [execOp, ho, hr.oM]; simp [Op.unary]) (.bool _) e
theorem aaz {x : Operand} {s t : TypeId} {k1 k2 : IntKind} (ho : o.op = .convert s t x) (hs : P.underlying s = some (.int k1)) (ht : P.underlying t = some (.int k2)) (H : HR P w0 φ h w) (hv : LR φ vs ([x].map ρ)) (e : JO k2 vs h k = true) : PR P w0 φ h ((execOp ρ o).run P w) fun v h' => k v h' = true := by
 obtain ⟨p, ag, e1⟩ := dO e; clear e; subst ag; have e := e1; clear e1
 obtain ⟨p', hp, hr⟩ := hv.one
 simp at hp; subst hp
 obtain ⟨kd, n, ag, e1⟩ := lk e; clear e; subst ag; have e := e1; clear e1
 rw [ma, wV] at e
 exact .same H (by simp only [execOp, ho, hr.fo]; simp [convert, run_underlying hs, run_underlying ht, Conv.intToInt]) (.int _ _) e
theorem QJ {fn : Fn} {first bw : Array Operand} (ho : o.op = .makeFunc fn first bw) (hf : ∀ φ, ru φ fn fn) (H : HR P w0 φ h w) (hv : LR φ vs ((first.toList ++ bw.toList).map ρ)) (e : JP fn first.size vs h k = true) : PR P w0 φ h ((execOp ρ o).run P w) fun v h' => k v h' = true := by
 obtain ⟨e, h1⟩ := D7 _ e
 obtain ⟨e, _⟩ := D8 _ e
 refine .same H (v' := .func fn (first.map ρ) (bw.map ρ)) ?_ (.func _ _ _ _ _ _ (hf φ) ?_ ?_) e
 · simp [execOp, ho, Instr.makeFunc]
 · have := hv.take first.size
   simpa [List.take_append] using this
 · have := hv.drop first.size
   simpa [List.drop_append] using this
theorem aaC {t : TypeId} {x : Operand} (ho : o.op = .makeInterface t x) (hc : P.concrete t = true) (H : HR P w0 φ h w) (hv : LR φ vs ([x].map ρ)) (e : JQ t vs h k = true) : PR P w0 φ h ((execOp ρ o).run P w) fun v h' => k v h' = true := by
 obtain ⟨p, ag, e1⟩ := dO e; clear e; subst ag; have e := e1; clear e1
 obtain ⟨p', hp, hr⟩ := hv.one
 simp at hp; subst hp
 exact .same H (by simp [execOp, ho, run_makeInterface w t (ρ x) hc]) (.iface _ _ _ hr) e
theorem aaD {t : TypeId} (ho : o.op = .makeMap t none) (H : HR P w0 φ h w) (e : RK vs h k = true) : PR P w0 φ h ((execOp ρ o).run P w) fun v h' => k v h' = true := by
 obtain ⟨_, e⟩ := rA e
 obtain ⟨aP, h1, h2⟩ := rz e
 obtain ⟨g1, g2⟩ := H.newAt (f := h.nx) (o := .map [] 0) (o' := .map #[] 0) (d := 0) (n := 0) (h' := ⟨h.nx + 1, aP⟩) (H.fresh _ (Nat.le_refl _)) h1.1 (fun g hg _ => h1.2 g hg) (fun g hg => H.fresh g (by simp only at hg; omega)) (fun g hg => by rw [h1.2 g (by simp only at hg; omega)]; exact H.top g (by simp only at hg; omega)) (by simp) _ (Nat.le_refl _) (.map _ _ _ _ _ .nil)
 refine ⟨.map (some w.heap.size), _, _, _, _, .inl ?_, h2, g2, by simp, .map _ _ (by simp [ak.put]) (fun b d n hl => ?_), g1⟩
 · simp [execOp, ho, Instr.makeMap, World.alloc_eq]
 · simp only [ak.gj] at hl; cases hl; rfl
theorem aaE {x : Operand} {i : Nat} (ho : o.op = .extract x i) (H : HR P w0 φ h w) (hv : LR φ vs ([x].map ρ)) (e : JR i vs h k = true) : PR P w0 φ h ((execOp ρ o).run P w) fun v h' => k v h' = true := by
 obtain ⟨p, ag, e1⟩ := dO e; clear e; subst ag; have e := e1; clear e1
 obtain ⟨p', hp, hr⟩ := hv.one
 simp at hp; subst hp
 obtain ⟨a, ag, e1⟩ := acN e; clear e; subst ag; have e := e1; clear e1
 obtain ⟨a', hx, hl⟩ := hr.Tv
 obtain ⟨v, g1, g2⟩ := zM _ e
 obtain ⟨v', g3, g4⟩ := LR.get hl _ _ g1
 have z7 : a'[i]? = some v' := by simpa using g3
 exact .same H (by simp [execOp, ho, hx, Instr.extract, z7]) g4 g2
theorem jI {b : Builtin} {c : Call} (ho : o.op = .call c) (hc : c.callee = .builtin b) :
 (execOp ρ o).run P w = (builtin b c.argTypes o.type (c.args.map fun | .const _ => true | _ => false) (c.args.map ρ)).run P w := by
 simp [execOp, ho, resolve, hc, invoke]
 rfl
theorem aaQ {c : Call} {x : Operand} {t e' : TypeId} (ho : o.op = .call c) (hc : c.callee = .builtin .len) (ha : c.args = #[x]) (ht : c.argTypes[0]? = some t) (hu : P.underlying t = some (.slice e')) (H : HR P w0 φ h w) (hv : LR φ vs ([x].map ρ)) (e : JS vs h k = true) : PR P w0 φ h ((execOp ρ o).run P w) fun v h' => k v h' = true := by
 obtain ⟨p, ag, e1⟩ := dO e; clear e; subst ag; have e := e1; clear e1
 obtain ⟨p', hp, hr⟩ := hv.one
 simp at hp; subst hp
 rcases nK e with ⟨l, c', ag, e1⟩ | ⟨a, l, c', ag, e1⟩ <;> (clear e; subst ag)
 · obtain ⟨rfl, rfl, hx⟩ := hr.oN
   refine .same H ?_ (.int _ _) e1
   rw [jI ho hc]
   simp [builtin, Builtin.len_, ha, ht, hx, run_underlying hu, goInt]
 · obtain ⟨a', Tc, hx, _, _⟩ := hr.mB
   refine .same H ?_ (.int _ _) e1
   rw [jI ho hc]
   simp [builtin, Builtin.len_, ha, ht, hx, run_underlying hu, goInt]
theorem aaP {c : Call} {x : Operand} {t : TypeId} (ho : o.op = .call c) (hc : c.callee = .builtin .len) (ha : c.args = #[x]) (ht : c.argTypes[0]? = some t) (hu : P.underlying t = some .string) (H : HR P w0 φ h w) (hv : LR φ vs ([x].map ρ)) (e : JT vs h k = true) : PR P w0 φ h ((execOp ρ o).run P w) fun v h' => k v h' = true := by
 obtain ⟨p, ag, e1⟩ := dO e; clear e; subst ag; have e := e1; clear e1
 obtain ⟨p', hp, hr⟩ := hv.one
 simp at hp; subst hp
 obtain ⟨s, ag, e1⟩ := jJ e; clear e; subst ag; have e := e1; clear e1
 rw [bH] at e
 refine .same H ?_ (.int _ _) e
 rw [jI ho hc]
 simp [builtin, Builtin.len_, ha, ht, hr.iD, run_underlying hu, goInt]
theorem ER.length : ∀ {l : List (Value × Value × Nat)} {l' : List MapEntry}, ER φ l l' → l.length = l'.length
 | _, _, .nil => rfl
 | _, _, .cons _ _ _ _ _ _ _ _ _ h => by simp [ER.length h]
theorem HR.IC (H : HR P w0 φ h w) {r r' : Nat} {es : List (Value × Value × Nat)} {cl : Nat} (hs : φ r ≠ none) (hr : ∀ b d n, φ r = some (.live b d n) → r' = b) (ho : h.ob.get r = some (.map es cl)) :
 ∃ d n bV, φ r = some (.live r' d n) ∧ w.heap[r']? = some (.map bV cl) ∧ ER φ es bV.toList ∧ w0.heap.size ≤ r' := by
 obtain ⟨b, d, n, o', h1, h2, h3, h4⟩ := H.live hs ho
 obtain rfl := hr b d n h1
 cases h3 with
 | map _ _ _ bV cl he => exact ⟨d, n, bV, h1, h2, he, h4 rfl⟩
theorem aaR {c : Call} {x : Operand} {t k' e' : TypeId} (ho : o.op = .call c) (hc : c.callee = .builtin .len) (ha : c.args = #[x]) (ht : c.argTypes[0]? = some t) (hu : P.underlying t = some (.map k' e')) (H : HR P w0 φ h w) (hv : LR φ vs ([x].map ρ)) (e : JU vs h k = true) : PR P w0 φ h ((execOp ρ o).run P w) fun v h' => k v h' = true := by
 obtain ⟨p, ag, e1⟩ := dO e; clear e; subst ag; have e := e1; clear e1
 obtain ⟨p', hp, hr⟩ := hv.one
 simp at hp; subst hp
 rcases CW e with ⟨ag, e1⟩ | ⟨r, ag, e1⟩ <;> (clear e; subst ag)
 · refine .same H ?_ (.int _ _) e1
   rw [jI ho hc]
   simp [builtin, Builtin.len_, ha, ht, hr.IB, run_underlying hu, goInt]
 · obtain ⟨r', hx, hs, nN⟩ := hr.CX
   obtain ⟨es, cl, g1, g2⟩ := tP e1
   obtain ⟨d, n, bV, _, q2, q3, _⟩ := H.IC hs nN g1
   rw [bH] at g2
   refine .same H ?_ (.int _ _) g2
   rw [jI ho hc]
   have := q3.length
   simp [builtin, Builtin.len_, ha, ht, hx, run_underlying hu, goInt, getObj, Sem.run, q2, this]
theorem aaS {c : Call} {x : Operand} {t e' : TypeId} {n : Nat} (ho : o.op = .call c) (hc : c.callee = .builtin .len) (ha : c.args = #[x]) (ht : c.argTypes[0]? = some t) (hu : P.underlying t = some (.array n e')) (H : HR P w0 φ h w) (e : JV n vs h k = true) : PR P w0 φ h ((execOp ρ o).run P w) fun v h' => k v h' = true := by
 obtain ⟨p, ag, e1⟩ := dO e; clear e; subst ag; have e := e1; clear e1
 refine .same H ?_ (.int _ _) e
 rw [jI ho hc]
 simp only [builtin, Builtin.len_, ha, ht]
 generalize ρ x = X
 cases X <;> simp [run_underlying hu, goInt]
end
end Go.Ve
