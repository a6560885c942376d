/- Part 5: VEval, part 6: each operation of the evaluator stands for the machine's own, second half. No condition. -/
import Derived.Test.YteeibihhdldjfaaGreatDoorVeD
import Derived.Laws.Build
set_option linter.unusedVariables false
set_option linter.unusedSimpArgs false
namespace Go.Ve
open Go.RowKit
section
variable {P : Program} {w0 w : World} {φ : au} {h : AH} {ρ : Operand → Value} {o : Oper} {vs : List Value} {k : KV}
theorem ach {op : BinOp} {t u : TypeId} {x y : Operand} (ho : o.op = .binOp op t x y u) (H : HR P w0 φ h w) (hv : LR φ vs ([x, y].map ρ)) (e : Fs op vs h k = true) : PR P w0 φ h ((execOp ρ o).run P w) fun v h' => k v h' = true := by
 obtain ⟨p, q, ah, e1⟩ := gp e; clear e; subst ah; have e := e1; clear e1
 obtain ⟨p', q', hp, hr, hq⟩ := hv.two
 simp at hp; obtain ⟨e1, e2⟩ := hp; subst e1 e2
 obtain ⟨a, ah, e1⟩ := j9 e; clear e; subst ah; have e := e1; clear e1
 obtain ⟨b, ah, e1⟩ := j9 e; clear e; subst ah; have e := e1; clear e1
 have hg : (eqGuard op t x y (.string a) (.string b)).run P w = .ok () w := by
  unfold eqGuard
  split <;> simp
 have hx := hr.jb
 have hy := hq.jb
 cases op <;> simp only [LF] at e <;> first | (cases e; done) | skip
 case eql => rw [gQ, eqStr] at e; exact .same H (by simp only [execOp, ho, hx, hy]; simp [hg, binOp, Op.stringOp]) (.bool _) e
 case neq => rw [gQ, eqStr] at e; exact .same H (by simp only [execOp, ho, hx, hy]; simp [hg, binOp, Op.stringOp]) (.bool _) e
theorem SU {op : BinOp} {t u : TypeId} {x y : Operand} {ng : Bool} (ho : o.op = .binOp op t x y u) (aS : (op = .eql ∧ ng = false) ∨ (op = .neq ∧ ng = true)) (hu : P.underlying t = some .bool) (H : HR P w0 φ h w) (hv : LR φ vs ([x, y].map ρ)) (e : LX ng vs h k = true) : PR P w0 φ h ((execOp ρ o).run P w) fun v h' => k v h' = true := by
 obtain ⟨p, q, ah, e1⟩ := gp e; clear e; subst ah; have e := e1; clear e1
 obtain ⟨p', q', hp, hr, hq⟩ := hv.two
 simp at hp; obtain ⟨e1, e2⟩ := hp; subst e1 e2
 obtain ⟨a, ah, e1⟩ := AI e; clear e; subst ah; have e := e1; clear e1
 obtain ⟨b, ah, e1⟩ := AI e; clear e; subst ah; have e := e1; clear e1
 have hg : (eqGuard op t x y (.bool a) (.bool b)).run P w = .ok () w := by
  unfold eqGuard
  split <;> simp
 have hx := hr.pT
 have hy := hq.pT
 rw [gQ] at e
 have heq : (Op.equal t (.bool a) (.bool b)).run P w = .ok (a == b) w := run_equalIn_bool' w 9999 t a b hu
 rcases aS with ⟨rfl, rfl⟩ | ⟨rfl, rfl⟩
 · exact .same H (v := .bool (a == b)) (by simp only [execOp, ho, hx, hy]; simp [hg, binOp, heq]) (.bool _) (by cases a <;> cases b <;> exact e)
 · exact .same H (v := .bool (!(a == b))) (by simp only [execOp, ho, hx, hy]; simp [hg, binOp, heq]) (.bool _) (by cases a <;> cases b <;> exact e)
theorem WD {nk : Nat} {v v' : Value} {b : Bool} (hv : VR φ v v') (h : iO nk v = some b) : iO nk v' = some b := by
 unfold iO at h
 split at h <;> cases h <;> cases hv <;> rfl
theorem ack {x : Operand} {t : TypeId} (ho : o.op = .unOp .neg t x) (H : HR P w0 φ h w) (hv : LR φ vs ([x].map ρ)) (e : LZ vs h k = true) : PR P w0 φ h ((execOp ρ o).run P w) fun v h' => k v h' = true := by
 obtain ⟨p, ah, e1⟩ := ew e; clear e; subst ah; have e := e1; clear e1
 obtain ⟨p', hp, hr⟩ := hv.one
 simp at hp; subst hp
 obtain ⟨kd, n, ah, e1⟩ := l6 e; clear e; subst ah; have e := e1; clear e1
 have hz : Int.sub (.ofNat 0) n = -n := by show (0 : Int) - n = -n; omega
 rw [mc, yo, hz] at e
 exact .same H (by simp only [execOp, ho, hr.gg]; simp [Op.unary, Op.intArith]) (.int _ _) e
theorem acm {x : Operand} {t : TypeId} (ho : o.op = .unOp .not t x) (H : HR P w0 φ h w) (hv : LR φ vs ([x].map ρ)) (e : L3 vs h k = true) : PR P w0 φ h ((execOp ρ o).run P w) fun v h' => k v h' = true := by
 obtain ⟨p, ah, e1⟩ := ew e; clear e; subst ah; have e := e1; clear e1
 obtain ⟨p', hp, hr⟩ := hv.one
 simp at hp; subst hp
 obtain ⟨b, ah, e1⟩ := AI e; clear e; subst ah; have e := e1; clear e1
 rw [gQ] at e
 exact .same H (by simp only [execOp, ho, hr.pT]; simp [Op.unary]) (.bool _) e
theorem acn {x : Operand} {s t : TypeId} {k1 k2 : IntKind} (ho : o.op = .convert s t x) (hs : P.underlying s = some (.int k1)) (ht : P.underlying t = some (.int k2)) (H : HR P w0 φ h w) (hv : LR φ vs ([x].map ρ)) (e : L4 k2 vs h k = true) : PR P w0 φ h ((execOp ρ o).run P w) fun v h' => k v h' = true := by
 obtain ⟨p, ah, e1⟩ := ew e; clear e; subst ah; have e := e1; clear e1
 obtain ⟨p', hp, hr⟩ := hv.one
 simp at hp; subst hp
 obtain ⟨kd, n, ah, e1⟩ := l6 e; clear e; subst ah; have e := e1; clear e1
 rw [mc, yo] at e
 exact .same H (by simp only [execOp, ho, hr.gg]; simp [convert, run_underlying hs, run_underlying ht, Conv.intToInt]) (.int _ _) e
theorem S4 {fn : Fn} {first bI : Array Operand} (ho : o.op = .makeFunc fn first bI) (hf : ∀ φ, ta φ fn fn) (H : HR P w0 φ h w) (hv : LR φ vs ((first.toList ++ bI.toList).map ρ)) (e : L5 fn first.size vs h k = true) : PR P w0 φ h ((execOp ρ o).run P w) fun v h' => k v h' = true := by
 obtain ⟨e, h1⟩ := F5 _ e
 obtain ⟨e, _⟩ := F6 _ e
 refine .same H (v' := .func fn (first.map ρ) (bI.map ρ)) ?_ (.func _ _ _ _ _ _ (hf φ) ?_ ?_) e
 · simp [execOp, ho, Instr.makeFunc]
 · have := hv.take first.size
   simpa [List.take_append] using this
 · have := hv.drop first.size
   simpa [List.drop_append] using this
theorem acq {t : TypeId} {x : Operand} (ho : o.op = .makeInterface t x) (hc : P.concrete t = true) (H : HR P w0 φ h w) (hv : LR φ vs ([x].map ρ)) (e : L6 t vs h k = true) : PR P w0 φ h ((execOp ρ o).run P w) fun v h' => k v h' = true := by
 obtain ⟨p, ah, e1⟩ := ew e; clear e; subst ah; have e := e1; clear e1
 obtain ⟨p', hp, hr⟩ := hv.one
 simp at hp; subst hp
 exact .same H (by simp [execOp, ho, run_makeInterface w t (ρ x) hc]) (.iface _ _ _ hr) e
theorem acr {t : TypeId} (ho : o.op = .makeMap t none) (H : HR P w0 φ h w) (e : T1 vs h k = true) : PR P w0 φ h ((execOp ρ o).run P w) fun v h' => k v h' = true := by
 obtain ⟨_, e⟩ := tg e
 obtain ⟨aU, h1, h2⟩ := tf e
 obtain ⟨g1, g2⟩ := H.newAt (f := h.nx) (o := .map [] 0) (o' := .map #[] 0) (d := 0) (n := 0) (h' := ⟨h.nx + 1, aU⟩) (H.fresh _ (Nat.le_refl _)) h1.1 (fun g hg _ => h1.2 g hg) (fun g hg => H.fresh g (by simp only at hg; omega)) (fun g hg => by rw [h1.2 g (by simp only at hg; omega)]; exact H.top g (by simp only at hg; omega)) (by simp) _ (Nat.le_refl _) (.map _ _ _ _ _ .nil)
 refine ⟨.map (some w.heap.size), _, _, _, _, .inl ?_, h2, g2, by simp, .map _ _ (by simp [au.put]) (fun b d n hl => ?_), g1⟩
 · simp [execOp, ho, Instr.makeMap, World.alloc_eq]
 · simp only [au.gN] at hl; cases hl; rfl
theorem acs {x : Operand} {i : Nat} (ho : o.op = .extract x i) (H : HR P w0 φ h w) (hv : LR φ vs ([x].map ρ)) (e : L7 i vs h k = true) : PR P w0 φ h ((execOp ρ o).run P w) fun v h' => k v h' = true := by
 obtain ⟨p, ah, e1⟩ := ew e; clear e; subst ah; have e := e1; clear e1
 obtain ⟨p', hp, hr⟩ := hv.one
 simp at hp; subst hp
 obtain ⟨a, ah, e1⟩ := aex e; clear e; subst ah; have e := e1; clear e1
 obtain ⟨a', hx, hl⟩ := hr.VE
 obtain ⟨v, g1, g2⟩ := Bu _ e
 obtain ⟨v', g3, g4⟩ := LR.get hl _ _ g1
 have BL : a'[i]? = some v' := by simpa using g3
 exact .same H (by simp [execOp, ho, hx, Instr.extract, BL]) g4 g2
theorem j8 {b : Builtin} {c : Call} (ho : o.op = .call c) (hc : c.callee = .builtin b) :
 (execOp ρ o).run P w = (builtin b c.argTypes o.type (c.args.map fun | .const _ => true | _ => false) (c.args.map ρ)).run P w := by
 simp [execOp, ho, resolve, hc, invoke]
 rfl
theorem acF {c : Call} {x : Operand} {t e' : TypeId} (ho : o.op = .call c) (hc : c.callee = .builtin .len) (ha : c.args = #[x]) (ht : c.argTypes[0]? = some t) (hu : P.underlying t = some (.slice e')) (H : HR P w0 φ h w) (hv : LR φ vs ([x].map ρ)) (e : L8 vs h k = true) : PR P w0 φ h ((execOp ρ o).run P w) fun v h' => k v h' = true := by
 obtain ⟨p, ah, e1⟩ := ew e; clear e; subst ah; have e := e1; clear e1
 obtain ⟨p', hp, hr⟩ := hv.one
 simp at hp; subst hp
 rcases oK e with ⟨l, c', ah, e1⟩ | ⟨a, l, c', ah, e1⟩ <;> (clear e; subst ah)
 · obtain ⟨rfl, rfl, hx⟩ := hr.pU
   refine .same H ?_ (.int _ _) e1
   rw [j8 ho hc]
   simp [builtin, Builtin.len_, ha, ht, hx, run_underlying hu, goInt]
 · obtain ⟨a', Vl, hx, _, _⟩ := hr.nF
   refine .same H ?_ (.int _ _) e1
   rw [j8 ho hc]
   simp [builtin, Builtin.len_, ha, ht, hx, run_underlying hu, goInt]
theorem acE {c : Call} {x : Operand} {t : TypeId} (ho : o.op = .call c) (hc : c.callee = .builtin .len) (ha : c.args = #[x]) (ht : c.argTypes[0]? = some t) (hu : P.underlying t = some .string) (H : HR P w0 φ h w) (hv : LR φ vs ([x].map ρ)) (e : L9 vs h k = true) : PR P w0 φ h ((execOp ρ o).run P w) fun v h' => k v h' = true := by
 obtain ⟨p, ah, e1⟩ := ew e; clear e; subst ah; have e := e1; clear e1
 obtain ⟨p', hp, hr⟩ := hv.one
 simp at hp; subst hp
 obtain ⟨s, ah, e1⟩ := j9 e; clear e; subst ah; have e := e1; clear e1
 rw [bO] at e
 refine .same H ?_ (.int _ _) e
 rw [j8 ho hc]
 simp [builtin, Builtin.len_, ha, ht, hr.jb, run_underlying hu, goInt]
theorem ER.length : ∀ {l : List (Value × Value × Nat)} {l' : List MapEntry}, ER φ l l' → l.length = l'.length
 | _, _, .nil => rfl
 | _, _, .cons _ _ _ _ _ _ _ _ _ h => by simp [ER.length h]
theorem HR.KI (H : HR P w0 φ h w) {r r' : Nat} {es : List (Value × Value × Nat)} {cl : Nat} (hs : φ r ≠ none) (hr : ∀ b d n, φ r = some (.live b d n) → r' = b) (ho : h.ob.get r = some (.map es cl)) :
 ∃ d n cq, φ r = some (.live r' d n) ∧ w.heap[r']? = some (.map cq cl) ∧ ER φ es cq.toList ∧ w0.heap.size ≤ r' := by
 obtain ⟨b, d, n, o', h1, h2, h3, h4⟩ := H.live hs ho
 obtain rfl := hr b d n h1
 cases h3 with
 | map _ _ _ cq cl he => exact ⟨d, n, cq, h1, h2, he, h4 rfl⟩
theorem acG {c : Call} {x : Operand} {t k' e' : TypeId} (ho : o.op = .call c) (hc : c.callee = .builtin .len) (ha : c.args = #[x]) (ht : c.argTypes[0]? = some t) (hu : P.underlying t = some (.map k' e')) (H : HR P w0 φ h w) (hv : LR φ vs ([x].map ρ)) (e : Ma vs h k = true) : PR P w0 φ h ((execOp ρ o).run P w) fun v h' => k v h' = true := by
 obtain ⟨p, ah, e1⟩ := ew e; clear e; subst ah; have e := e1; clear e1
 obtain ⟨p', hp, hr⟩ := hv.one
 simp at hp; subst hp
 rcases EM e with ⟨ah, e1⟩ | ⟨r, ah, e1⟩ <;> (clear e; subst ah)
 · refine .same H ?_ (.int _ _) e1
   rw [j8 ho hc]
   simp [builtin, Builtin.len_, ha, ht, hr.KH, run_underlying hu, goInt]
 · obtain ⟨r', hx, hs, mM⟩ := hr.EN
   obtain ⟨es, cl, g1, g2⟩ := vt e1
   obtain ⟨d, n, cq, _, q2, q3, _⟩ := H.KI hs mM g1
   rw [bO] at g2
   refine .same H ?_ (.int _ _) g2
   rw [j8 ho hc]
   have := q3.length
   simp [builtin, Builtin.len_, ha, ht, hx, run_underlying hu, goInt, getObj, Sem.run, q2, this]
theorem acH {c : Call} {x : Operand} {t e' : TypeId} {n : Nat} (ho : o.op = .call c) (hc : c.callee = .builtin .len) (ha : c.args = #[x]) (ht : c.argTypes[0]? = some t) (hu : P.underlying t = some (.array n e')) (H : HR P w0 φ h w) (e : Mb n vs h k = true) : PR P w0 φ h ((execOp ρ o).run P w) fun v h' => k v h' = true := by
 obtain ⟨p, ah, e1⟩ := ew e; clear e; subst ah; have e := e1; clear e1
 refine .same H ?_ (.int _ _) e
 rw [j8 ho hc]
 simp only [builtin, Builtin.len_, ha, ht]
 generalize ρ x = X
 cases X <;> simp [run_underlying hu, goInt]
end
end Go.Ve
