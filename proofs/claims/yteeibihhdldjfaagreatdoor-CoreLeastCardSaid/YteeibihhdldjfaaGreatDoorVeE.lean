/- Part 5: VEval, part 6: each operation of the evaluator stands for the machine's own, second half. No condition. -/
import Derived.Test.YteeibihhdldjfaaGreatDoorVeD
import Derived.Laws.Build
set_option linter.unusedVariables false
set_option linter.unusedSimpArgs false
namespace Go.Ve
open Go.RowKit
section
variable {P : Program} {w0 w : World} {φ : aE} {h : AH} {ρ : Operand → Value} {o : Oper} {vs : List Value} {k : KV}
theorem adq {op : BinOp} {t u : TypeId} {x y : Operand} (ho : o.op = .binOp op t x y u) (H : HR P w0 φ h w) (hv : LR φ vs ([x, y].map ρ)) (e : FF op vs h k = true) : PR P w0 φ h ((execOp ρ o).run P w) fun v h' => k v h' = true := by
 obtain ⟨p, q, al, e1⟩ := gm e; clear e; subst al; have e := e1; clear e1
 obtain ⟨p', q', hp, hr, hq⟩ := hv.two
 simp at hp; obtain ⟨e1, e2⟩ := hp; subst e1 e2
 obtain ⟨a, al, e1⟩ := kb e; clear e; subst al; have e := e1; clear e1
 obtain ⟨b, al, e1⟩ := kb e; clear e; subst al; have e := e1; clear e1
 have hg : (eqGuard op t x y (.string a) (.string b)).run P w = .ok () w := by
  unfold eqGuard
  split <;> simp
 have hx := hr.ja
 have hy := hq.ja
 cases op <;> simp only [MU] at e <;> first | (cases e; done) | skip
 case eql => rw [ia, eqStr] at e; exact .same H (by simp only [execOp, ho, hx, hy]; simp [hg, binOp, Op.stringOp]) (.bool _) e
 case neq => rw [ia, eqStr] at e; exact .same H (by simp only [execOp, ho, hx, hy]; simp [hg, binOp, Op.stringOp]) (.bool _) e
theorem Uw {op : BinOp} {t u : TypeId} {x y : Operand} {ng : Bool} (ho : o.op = .binOp op t x y u) (aQ : (op = .eql ∧ ng = false) ∨ (op = .neq ∧ ng = true)) (hu : P.underlying t = some .bool) (H : HR P w0 φ h w) (hv : LR φ vs ([x, y].map ρ)) (e : M8 ng vs h k = true) : PR P w0 φ h ((execOp ρ o).run P w) fun v h' => k v h' = true := by
 obtain ⟨p, q, al, e1⟩ := gm e; clear e; subst al; have e := e1; clear e1
 obtain ⟨p', q', hp, hr, hq⟩ := hv.two
 simp at hp; obtain ⟨e1, e2⟩ := hp; subst e1 e2
 obtain ⟨a, al, e1⟩ := AF e; clear e; subst al; have e := e1; clear e1
 obtain ⟨b, al, e1⟩ := AF e; clear e; subst al; have e := e1; clear e1
 have hg : (eqGuard op t x y (.bool a) (.bool b)).run P w = .ok () w := by
  unfold eqGuard
  split <;> simp
 have hx := hr.pC
 have hy := hq.pC
 rw [ia] at e
 have heq : (Op.equal t (.bool a) (.bool b)).run P w = .ok (a == b) w := run_equalIn_bool' w 9999 t a b hu
 rcases aQ with ⟨rfl, rfl⟩ | ⟨rfl, rfl⟩
 · exact .same H (v := .bool (a == b)) (by simp only [execOp, ho, hx, hy]; simp [hg, binOp, heq]) (.bool _) (by cases a <;> cases b <;> exact e)
 · exact .same H (v := .bool (!(a == b))) (by simp only [execOp, ho, hx, hy]; simp [hg, binOp, heq]) (.bool _) (by cases a <;> cases b <;> exact e)
theorem X9 {nk : Nat} {v v' : Value} {b : Bool} (hv : VR φ v v') (h : iN nk v = some b) : iN nk v' = some b := by
 unfold iN at h
 split at h <;> cases h <;> cases hv <;> rfl
theorem adt {x : Operand} {t : TypeId} (ho : o.op = .unOp .neg t x) (H : HR P w0 φ h w) (hv : LR φ vs ([x].map ρ)) (e : Na vs h k = true) : PR P w0 φ h ((execOp ρ o).run P w) fun v h' => k v h' = true := by
 obtain ⟨p, al, e1⟩ := dX e; clear e; subst al; have e := e1; clear e1
 obtain ⟨p', hp, hr⟩ := hv.one
 simp at hp; subst hp
 obtain ⟨kd, n, al, e1⟩ := lP e; clear e; subst al; have e := e1; clear e1
 have hz : Int.sub (.ofNat 0) n = -n := by show (0 : Int) - n = -n; omega
 rw [ot, yD, hz] at e
 exact .same H (by simp only [execOp, ho, hr.fX]; simp [Op.unary, Op.intArith]) (.int _ _) e
theorem adu {x : Operand} {t : TypeId} (ho : o.op = .unOp .not t x) (H : HR P w0 φ h w) (hv : LR φ vs ([x].map ρ)) (e : Nb vs h k = true) : PR P w0 φ h ((execOp ρ o).run P w) fun v h' => k v h' = true := by
 obtain ⟨p, al, e1⟩ := dX e; clear e; subst al; have e := e1; clear e1
 obtain ⟨p', hp, hr⟩ := hv.one
 simp at hp; subst hp
 obtain ⟨b, al, e1⟩ := AF e; clear e; subst al; have e := e1; clear e1
 rw [ia] at e
 exact .same H (by simp only [execOp, ho, hr.pC]; simp [Op.unary]) (.bool _) e
theorem adv {x : Operand} {s t : TypeId} {k1 k2 : IntKind} (ho : o.op = .convert s t x) (hs : P.underlying s = some (.int k1)) (ht : P.underlying t = some (.int k2)) (H : HR P w0 φ h w) (hv : LR φ vs ([x].map ρ)) (e : Nc k2 vs h k = true) : PR P w0 φ h ((execOp ρ o).run P w) fun v h' => k v h' = true := by
 obtain ⟨p, al, e1⟩ := dX e; clear e; subst al; have e := e1; clear e1
 obtain ⟨p', hp, hr⟩ := hv.one
 simp at hp; subst hp
 obtain ⟨kd, n, al, e1⟩ := lP e; clear e; subst al; have e := e1; clear e1
 rw [ot, yD] at e
 exact .same H (by simp only [execOp, ho, hr.fX]; simp [convert, run_underlying hs, run_underlying ht, Conv.intToInt]) (.int _ _) e
theorem UB {fn : Fn} {first bD : Array Operand} (ho : o.op = .makeFunc fn first bD) (hf : ∀ φ, sB φ fn fn) (H : HR P w0 φ h w) (hv : LR φ vs ((first.toList ++ bD.toList).map ρ)) (e : Nd fn first.size vs h k = true) : PR P w0 φ h ((execOp ρ o).run P w) fun v h' => k v h' = true := by
 obtain ⟨e, h1⟩ := Gh _ e
 obtain ⟨e, _⟩ := Gi _ e
 refine .same H (v' := .func fn (first.map ρ) (bD.map ρ)) ?_ (.func _ _ _ _ _ _ (hf φ) ?_ ?_) e
 · simp [execOp, ho, Instr.makeFunc]
 · have := hv.take first.size
   simpa [List.take_append] using this
 · have := hv.drop first.size
   simpa [List.drop_append] using this
theorem ady {t : TypeId} {x : Operand} (ho : o.op = .makeInterface t x) (hc : P.concrete t = true) (H : HR P w0 φ h w) (hv : LR φ vs ([x].map ρ)) (e : Nf t vs h k = true) : PR P w0 φ h ((execOp ρ o).run P w) fun v h' => k v h' = true := by
 obtain ⟨p, al, e1⟩ := dX e; clear e; subst al; have e := e1; clear e1
 obtain ⟨p', hp, hr⟩ := hv.one
 simp at hp; subst hp
 exact .same H (by simp [execOp, ho, run_makeInterface w t (ρ x) hc]) (.iface _ _ _ hr) e
theorem adz {t : TypeId} (ho : o.op = .makeMap t none) (H : HR P w0 φ h w) (e : VA vs h k = true) : PR P w0 φ h ((execOp ρ o).run P w) fun v h' => k v h' = true := by
 obtain ⟨_, e⟩ := sF e
 obtain ⟨aS, h1, h2⟩ := sE e
 obtain ⟨g1, g2⟩ := H.newAt (f := h.nx) (o := .map [] 0) (o' := .map #[] 0) (d := 0) (n := 0) (h' := ⟨h.nx + 1, aS⟩) (H.fresh _ (Nat.le_refl _)) h1.1 (fun g hg _ => h1.2 g hg) (fun g hg => H.fresh g (by simp only at hg; omega)) (fun g hg => by rw [h1.2 g (by simp only at hg; omega)]; exact H.top g (by simp only at hg; omega)) (by simp) _ (Nat.le_refl _) (.map _ _ _ _ _ .nil)
 refine ⟨.map (some w.heap.size), _, _, _, _, .inl ?_, h2, g2, by simp, .map _ _ (by simp [aE.put]) (fun b d n hl => ?_), g1⟩
 · simp [execOp, ho, Instr.makeMap, World.alloc_eq]
 · simp only [aE.gP] at hl; cases hl; rfl
theorem adA {x : Operand} {i : Nat} (ho : o.op = .extract x i) (H : HR P w0 φ h w) (hv : LR φ vs ([x].map ρ)) (e : Ng i vs h k = true) : PR P w0 φ h ((execOp ρ o).run P w) fun v h' => k v h' = true := by
 obtain ⟨p, al, e1⟩ := dX e; clear e; subst al; have e := e1; clear e1
 obtain ⟨p', hp, hr⟩ := hv.one
 simp at hp; subst hp
 obtain ⟨a, al, e1⟩ := afE e; clear e; subst al; have e := e1; clear e1
 obtain ⟨a', hx, hl⟩ := hr.Xg
 obtain ⟨v, g1, g2⟩ := Br _ e
 obtain ⟨v', g3, g4⟩ := LR.get hl _ _ g1
 have BF : a'[i]? = some v' := by simpa using g3
 exact .same H (by simp [execOp, ho, hx, Instr.extract, BF]) g4 g2
theorem j9 {b : Builtin} {c : Call} (ho : o.op = .call c) (hc : c.callee = .builtin b) :
 (execOp ρ o).run P w = (builtin b c.argTypes o.type (c.args.map fun | .const _ => true | _ => false) (c.args.map ρ)).run P w := by
 simp [execOp, ho, resolve, hc, invoke]
 rfl
theorem adM {c : Call} {x : Operand} {t e' : TypeId} (ho : o.op = .call c) (hc : c.callee = .builtin .len) (ha : c.args = #[x]) (ht : c.argTypes[0]? = some t) (hu : P.underlying t = some (.slice e')) (H : HR P w0 φ h w) (hv : LR φ vs ([x].map ρ)) (e : Nh vs h k = true) : PR P w0 φ h ((execOp ρ o).run P w) fun v h' => k v h' = true := by
 obtain ⟨p, al, e1⟩ := dX e; clear e; subst al; have e := e1; clear e1
 obtain ⟨p', hp, hr⟩ := hv.one
 simp at hp; subst hp
 rcases oe e with ⟨l, c', al, e1⟩ | ⟨a, l, c', al, e1⟩ <;> (clear e; subst al)
 · obtain ⟨rfl, rfl, hx⟩ := hr.pD
   refine .same H ?_ (.int _ _) e1
   rw [j9 ho hc]
   simp [builtin, Builtin.len_, ha, ht, hx, run_underlying hu, goInt]
 · obtain ⟨a', WX, hx, _, _⟩ := hr.ni
   refine .same H ?_ (.int _ _) e1
   rw [j9 ho hc]
   simp [builtin, Builtin.len_, ha, ht, hx, run_underlying hu, goInt]
theorem adL {c : Call} {x : Operand} {t : TypeId} (ho : o.op = .call c) (hc : c.callee = .builtin .len) (ha : c.args = #[x]) (ht : c.argTypes[0]? = some t) (hu : P.underlying t = some .string) (H : HR P w0 φ h w) (hv : LR φ vs ([x].map ρ)) (e : Ni vs h k = true) : PR P w0 φ h ((execOp ρ o).run P w) fun v h' => k v h' = true := by
 obtain ⟨p, al, e1⟩ := dX e; clear e; subst al; have e := e1; clear e1
 obtain ⟨p', hp, hr⟩ := hv.one
 simp at hp; subst hp
 obtain ⟨s, al, e1⟩ := kb e; clear e; subst al; have e := e1; clear e1
 rw [bT] at e
 refine .same H ?_ (.int _ _) e
 rw [j9 ho hc]
 simp [builtin, Builtin.len_, ha, ht, hr.ja, run_underlying hu, goInt]
theorem ER.length : ∀ {l : List (Value × Value × Nat)} {l' : List MapEntry}, ER φ l l' → l.length = l'.length
 | _, _, .nil => rfl
 | _, _, .cons _ _ _ _ _ _ _ _ _ h => by simp [ER.length h]
theorem HR.LY (H : HR P w0 φ h w) {r r' : Nat} {es : List (Value × Value × Nat)} {cl : Nat} (hs : φ r ≠ none) (hr : ∀ b d n, φ r = some (.live b d n) → r' = b) (ho : h.ob.get r = some (.map es cl)) :
 ∃ d n cn, φ r = some (.live r' d n) ∧ w.heap[r']? = some (.map cn cl) ∧ ER φ es cn.toList ∧ w0.heap.size ≤ r' := by
 obtain ⟨b, d, n, o', h1, h2, h3, h4⟩ := H.live hs ho
 obtain rfl := hr b d n h1
 cases h3 with
 | map _ _ _ cn cl he => exact ⟨d, n, cn, h1, h2, he, h4 rfl⟩
theorem adN {c : Call} {x : Operand} {t k' e' : TypeId} (ho : o.op = .call c) (hc : c.callee = .builtin .len) (ha : c.args = #[x]) (ht : c.argTypes[0]? = some t) (hu : P.underlying t = some (.map k' e')) (H : HR P w0 φ h w) (hv : LR φ vs ([x].map ρ)) (e : Nj vs h k = true) : PR P w0 φ h ((execOp ρ o).run P w) fun v h' => k v h' = true := by
 obtain ⟨p, al, e1⟩ := dX e; clear e; subst al; have e := e1; clear e1
 obtain ⟨p', hp, hr⟩ := hv.one
 simp at hp; subst hp
 rcases E0 e with ⟨al, e1⟩ | ⟨r, al, e1⟩ <;> (clear e; subst al)
 · refine .same H ?_ (.int _ _) e1
   rw [j9 ho hc]
   simp [builtin, Builtin.len_, ha, ht, hr.LX, run_underlying hu, goInt]
 · obtain ⟨r', hx, hs, oi⟩ := hr.E4
   obtain ⟨es, cl, g1, g2⟩ := uY e1
   obtain ⟨d, n, cn, _, q2, q3, _⟩ := H.LY hs oi g1
   rw [bT] at g2
   refine .same H ?_ (.int _ _) g2
   rw [j9 ho hc]
   have := q3.length
   simp [builtin, Builtin.len_, ha, ht, hx, run_underlying hu, goInt, getObj, Sem.run, q2, this]
theorem adO {c : Call} {x : Operand} {t e' : TypeId} {n : Nat} (ho : o.op = .call c) (hc : c.callee = .builtin .len) (ha : c.args = #[x]) (ht : c.argTypes[0]? = some t) (hu : P.underlying t = some (.array n e')) (H : HR P w0 φ h w) (e : Nk n vs h k = true) : PR P w0 φ h ((execOp ρ o).run P w) fun v h' => k v h' = true := by
 obtain ⟨p, al, e1⟩ := dX e; clear e; subst al; have e := e1; clear e1
 refine .same H ?_ (.int _ _) e
 rw [j9 ho hc]
 simp only [builtin, Builtin.len_, ha, ht]
 generalize ρ x = X
 cases X <;> simp [run_underlying hu, goInt]
end
end Go.Ve
