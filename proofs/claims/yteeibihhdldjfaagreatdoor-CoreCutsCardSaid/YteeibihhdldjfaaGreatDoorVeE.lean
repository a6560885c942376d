/- Part 5: VEval, part 6: each operation of the evaluator stands for the machine's own, second half. No condition. -/
import Derived.Test.YteeibihhdldjfaaGreatDoorVeD
import Derived.Laws.Build
set_option linter.unusedVariables false
set_option linter.unusedSimpArgs false
namespace Go.Ve
open Go.RowKit
section
variable {P : Program} {w0 w : World} {φ : Phi} {h : AH} {ρ : Operand → Value} {o : Oper} {vs : List Value} {k : KV}
theorem snd_sop {op : BinOp} {t u : TypeId} {x y : Operand} (ho : o.op = .binOp op t x y u) (H : HR P w0 φ h w) (hv : LR φ vs ([x, y].map ρ)) (e : ev_sop op vs h k = true) : PR P w0 φ h ((execOp ρ o).run P w) fun v h' => k v h' = true := by
  obtain ⟨p, q, hsub, e1⟩ := a2_t e; clear e; subst hsub; have e := e1; clear e1
  obtain ⟨p', q', hp, hr, hq⟩ := hv.two
  simp at hp; obtain ⟨e1, e2⟩ := hp; subst e1 e2
  obtain ⟨a, hsub, e1⟩ := strK_t e; clear e; subst hsub; have e := e1; clear e1
  obtain ⟨b, hsub, e1⟩ := strK_t e; clear e; subst hsub; have e := e1; clear e1
  have hg : (eqGuard op t x y (.string a) (.string b)).run P w = .ok () w := by
    unfold eqGuard
    split <;> simp
  have hx := hr.str_inv
  have hy := hq.str_inv
  cases op <;> simp only [sopD] at e <;> first | (cases e; done) | skip
  case eql => rw [fB_eq, eqStr] at e; exact .same H (by simp only [execOp, ho, hx, hy]; simp [hg, binOp, Op.stringOp]) (.bool _) e
  case neq => rw [fB_eq, eqStr] at e; exact .same H (by simp only [execOp, ho, hx, hy]; simp [hg, binOp, Op.stringOp]) (.bool _) e
theorem snd_eqB {op : BinOp} {t u : TypeId} {x y : Operand} {ng : Bool} (ho : o.op = .binOp op t x y u) (hop : (op = .eql ∧ ng = false) ∨ (op = .neq ∧ ng = true)) (hu : P.underlying t = some .bool) (H : HR P w0 φ h w) (hv : LR φ vs ([x, y].map ρ)) (e : ev_eqB ng vs h k = true) : PR P w0 φ h ((execOp ρ o).run P w) fun v h' => k v h' = true := by
  obtain ⟨p, q, hsub, e1⟩ := a2_t e; clear e; subst hsub; have e := e1; clear e1
  obtain ⟨p', q', hp, hr, hq⟩ := hv.two
  simp at hp; obtain ⟨e1, e2⟩ := hp; subst e1 e2
  obtain ⟨a, hsub, e1⟩ := boolK_t e; clear e; subst hsub; have e := e1; clear e1
  obtain ⟨b, hsub, e1⟩ := boolK_t e; clear e; subst hsub; have e := e1; clear e1
  have hg : (eqGuard op t x y (.bool a) (.bool b)).run P w = .ok () w := by
    unfold eqGuard
    split <;> simp
  have hx := hr.bool_inv
  have hy := hq.bool_inv
  rw [fB_eq] at e
  have heq : (Op.equal t (.bool a) (.bool b)).run P w = .ok (a == b) w := run_equalIn_bool' w 9999 t a b hu
  rcases hop with ⟨rfl, rfl⟩ | ⟨rfl, rfl⟩
  · exact .same H (v := .bool (a == b)) (by simp only [execOp, ho, hx, hy]; simp [hg, binOp, heq]) (.bool _) (by cases a <;> cases b <;> exact e)
  · exact .same H (v := .bool (!(a == b))) (by simp only [execOp, ho, hx, hy]; simp [hg, binOp, heq]) (.bool _) (by cases a <;> cases b <;> exact e)
theorem isNil_some {nk : Nat} {v v' : Value} {b : Bool} (hv : VR φ v v') (h : isNilV nk v = some b) : isNilV nk v' = some b := by
  unfold isNilV at h
  split at h <;> cases h <;> cases hv <;> rfl
theorem snd_neg {x : Operand} {t : TypeId} (ho : o.op = .unOp .neg t x) (H : HR P w0 φ h w) (hv : LR φ vs ([x].map ρ)) (e : ev_neg vs h k = true) : PR P w0 φ h ((execOp ρ o).run P w) fun v h' => k v h' = true := by
  obtain ⟨p, hsub, e1⟩ := a1_t e; clear e; subst hsub; have e := e1; clear e1
  obtain ⟨p', hp, hr⟩ := hv.one
  simp at hp; subst hp
  obtain ⟨kd, n, hsub, e1⟩ := intK_t e; clear e; subst hsub; have e := e1; clear e1
  have hz : Int.sub (.ofNat 0) n = -n := by show (0 : Int) - n = -n; omega
  rw [fI_eq, wrapQ_eq, hz] at e
  exact .same H (by simp only [execOp, ho, hr.int_inv]; simp [Op.unary, Op.intArith]) (.int _ _) e
theorem snd_notB {x : Operand} {t : TypeId} (ho : o.op = .unOp .not t x) (H : HR P w0 φ h w) (hv : LR φ vs ([x].map ρ)) (e : ev_notB vs h k = true) : PR P w0 φ h ((execOp ρ o).run P w) fun v h' => k v h' = true := by
  obtain ⟨p, hsub, e1⟩ := a1_t e; clear e; subst hsub; have e := e1; clear e1
  obtain ⟨p', hp, hr⟩ := hv.one
  simp at hp; subst hp
  obtain ⟨b, hsub, e1⟩ := boolK_t e; clear e; subst hsub; have e := e1; clear e1
  rw [fB_eq] at e
  exact .same H (by simp only [execOp, ho, hr.bool_inv]; simp [Op.unary]) (.bool _) e
theorem snd_conv {x : Operand} {s t : TypeId} {k1 k2 : IntKind} (ho : o.op = .convert s t x) (hs : P.underlying s = some (.int k1)) (ht : P.underlying t = some (.int k2)) (H : HR P w0 φ h w) (hv : LR φ vs ([x].map ρ)) (e : ev_conv k2 vs h k = true) : PR P w0 φ h ((execOp ρ o).run P w) fun v h' => k v h' = true := by
  obtain ⟨p, hsub, e1⟩ := a1_t e; clear e; subst hsub; have e := e1; clear e1
  obtain ⟨p', hp, hr⟩ := hv.one
  simp at hp; subst hp
  obtain ⟨kd, n, hsub, e1⟩ := intK_t e; clear e; subst hsub; have e := e1; clear e1
  rw [fI_eq, wrapQ_eq] at e
  exact .same H (by simp only [execOp, ho, hr.int_inv]; simp [convert, run_underlying hs, run_underlying ht, Conv.intToInt]) (.int _ _) e
theorem snd_mkFunc {fn : Fn} {first capt : Array Operand} (ho : o.op = .makeFunc fn first capt) (hf : ∀ φ, FnR φ fn fn) (H : HR P w0 φ h w) (hv : LR φ vs ((first.toList ++ capt.toList).map ρ)) (e : ev_mkFunc fn first.size vs h k = true) : PR P w0 φ h ((execOp ρ o).run P w) fun v h' => k v h' = true := by
  obtain ⟨e, h1⟩ := takeK_t _ e
  obtain ⟨e, _⟩ := dropK_t _ e
  refine .same H (v' := .func fn (first.map ρ) (capt.map ρ)) ?_ (.func _ _ _ _ _ _ (hf φ) ?_ ?_) e
  · simp [execOp, ho, Instr.makeFunc]
  · have := hv.take first.size
    simpa [List.take_append] using this
  · have := hv.drop first.size
    simpa [List.drop_append] using this
theorem snd_mkIface {t : TypeId} {x : Operand} (ho : o.op = .makeInterface t x) (hc : P.concrete t = true) (H : HR P w0 φ h w) (hv : LR φ vs ([x].map ρ)) (e : ev_mkIface t vs h k = true) : PR P w0 φ h ((execOp ρ o).run P w) fun v h' => k v h' = true := by
  obtain ⟨p, hsub, e1⟩ := a1_t e; clear e; subst hsub; have e := e1; clear e1
  obtain ⟨p', hp, hr⟩ := hv.one
  simp at hp; subst hp
  exact .same H (by simp [execOp, ho, run_makeInterface w t (ρ x) hc]) (.iface _ _ _ hr) e
theorem snd_mkMap {t : TypeId} (ho : o.op = .makeMap t none) (H : HR P w0 φ h w) (e : ev_mkMap vs h k = true) : PR P w0 φ h ((execOp ρ o).run P w) fun v h' => k v h' = true := by
  obtain ⟨_, e⟩ := a0_t e
  obtain ⟨ob', h1, h2⟩ := newK_t e
  obtain ⟨g1, g2⟩ := H.newAt (f := h.nx) (o := .map [] 0) (o' := .map #[] 0) (d := 0) (n := 0) (h' := ⟨h.nx + 1, ob'⟩) (H.fresh _ (Nat.le_refl _)) h1.1 (fun g hg _ => h1.2 g hg) (fun g hg => H.fresh g (by simp only at hg; omega)) (fun g hg => by rw [h1.2 g (by simp only at hg; omega)]; exact H.top g (by simp only at hg; omega)) (by simp) _ (Nat.le_refl _) (.map _ _ _ _ _ .nil)
  refine ⟨.map (some w.heap.size), _, _, _, _, .inl ?_, h2, g2, by simp, .map _ _ (by simp [Phi.put]) (fun b d n hl => ?_), g1⟩
  · simp [execOp, ho, Instr.makeMap, World.alloc_eq]
  · simp only [Phi.put_same] at hl; cases hl; rfl
theorem snd_extract {x : Operand} {i : Nat} (ho : o.op = .extract x i) (H : HR P w0 φ h w) (hv : LR φ vs ([x].map ρ)) (e : ev_extract i vs h k = true) : PR P w0 φ h ((execOp ρ o).run P w) fun v h' => k v h' = true := by
  obtain ⟨p, hsub, e1⟩ := a1_t e; clear e; subst hsub; have e := e1; clear e1
  obtain ⟨p', hp, hr⟩ := hv.one
  simp at hp; subst hp
  obtain ⟨a, hsub, e1⟩ := tupK1_t e; clear e; subst hsub; have e := e1; clear e1
  obtain ⟨a', hx, hl⟩ := hr.tup_inv
  obtain ⟨v, g1, g2⟩ := nthK_t _ e
  obtain ⟨v', g3, g4⟩ := LR.get hl _ _ g1
  have g3' : a'[i]? = some v' := by simpa using g3
  exact .same H (by simp [execOp, ho, hx, Instr.extract, g3']) g4 g2
theorem run_builtin {b : Builtin} {c : Call} (ho : o.op = .call c) (hc : c.callee = .builtin b) :
    (execOp ρ o).run P w = (builtin b c.argTypes o.type (c.args.map fun | .const _ => true | _ => false) (c.args.map ρ)).run P w := by
  simp [execOp, ho, resolve, hc, invoke]
  rfl
theorem snd_lenSl {c : Call} {x : Operand} {t e' : TypeId} (ho : o.op = .call c) (hc : c.callee = .builtin .len) (ha : c.args = #[x]) (ht : c.argTypes[0]? = some t) (hu : P.underlying t = some (.slice e')) (H : HR P w0 φ h w) (hv : LR φ vs ([x].map ρ)) (e : ev_lenSl vs h k = true) : PR P w0 φ h ((execOp ρ o).run P w) fun v h' => k v h' = true := by
  obtain ⟨p, hsub, e1⟩ := a1_t e; clear e; subst hsub; have e := e1; clear e1
  obtain ⟨p', hp, hr⟩ := hv.one
  simp at hp; subst hp
  rcases slK_t e with ⟨l, c', hsub, e1⟩ | ⟨a, l, c', hsub, e1⟩ <;> (clear e; subst hsub)
  · obtain ⟨rfl, rfl, hx⟩ := hr.nils_inv
    refine .same H ?_ (.int _ _) e1
    rw [run_builtin ho hc]
    simp [builtin, Builtin.len_, ha, ht, hx, run_underlying hu, goInt]
  · obtain ⟨a', c'', hx, _, _⟩ := hr.sl_inv
    refine .same H ?_ (.int _ _) e1
    rw [run_builtin ho hc]
    simp [builtin, Builtin.len_, ha, ht, hx, run_underlying hu, goInt]
theorem snd_lenStr {c : Call} {x : Operand} {t : TypeId} (ho : o.op = .call c) (hc : c.callee = .builtin .len) (ha : c.args = #[x]) (ht : c.argTypes[0]? = some t) (hu : P.underlying t = some .string) (H : HR P w0 φ h w) (hv : LR φ vs ([x].map ρ)) (e : ev_lenStr vs h k = true) : PR P w0 φ h ((execOp ρ o).run P w) fun v h' => k v h' = true := by
  obtain ⟨p, hsub, e1⟩ := a1_t e; clear e; subst hsub; have e := e1; clear e1
  obtain ⟨p', hp, hr⟩ := hv.one
  simp at hp; subst hp
  obtain ⟨s, hsub, e1⟩ := strK_t e; clear e; subst hsub; have e := e1; clear e1
  rw [fN_eq] at e
  refine .same H ?_ (.int _ _) e
  rw [run_builtin ho hc]
  simp [builtin, Builtin.len_, ha, ht, hr.str_inv, run_underlying hu, goInt]
theorem ER.length : ∀ {l : List (Value × Value × Nat)} {l' : List MapEntry}, ER φ l l' → l.length = l'.length
  | _, _, .nil => rfl
  | _, _, .cons _ _ _ _ _ _ _ _ _ h => by simp [ER.length h]
theorem HR.mapAt (H : HR P w0 φ h w) {r r' : Nat} {es : List (Value × Value × Nat)} {cl : Nat} (hs : φ r ≠ none) (hr : ∀ b d n, φ r = some (.live b d n) → r' = b) (ho : h.ob.get r = some (.map es cl)) :
    ∃ d n es', φ r = some (.live r' d n) ∧ w.heap[r']? = some (.map es' cl) ∧ ER φ es es'.toList ∧ w0.heap.size ≤ r' := by
  obtain ⟨b, d, n, o', h1, h2, h3, h4⟩ := H.live hs ho
  obtain rfl := hr b d n h1
  cases h3 with
  | map _ _ _ es' cl he => exact ⟨d, n, es', h1, h2, he, h4 rfl⟩
theorem snd_lenMap {c : Call} {x : Operand} {t k' e' : TypeId} (ho : o.op = .call c) (hc : c.callee = .builtin .len) (ha : c.args = #[x]) (ht : c.argTypes[0]? = some t) (hu : P.underlying t = some (.map k' e')) (H : HR P w0 φ h w) (hv : LR φ vs ([x].map ρ)) (e : ev_lenMap vs h k = true) : PR P w0 φ h ((execOp ρ o).run P w) fun v h' => k v h' = true := by
  obtain ⟨p, hsub, e1⟩ := a1_t e; clear e; subst hsub; have e := e1; clear e1
  obtain ⟨p', hp, hr⟩ := hv.one
  simp at hp; subst hp
  rcases mpK_t e with ⟨hsub, e1⟩ | ⟨r, hsub, e1⟩ <;> (clear e; subst hsub)
  · refine .same H ?_ (.int _ _) e1
    rw [run_builtin ho hc]
    simp [builtin, Builtin.len_, ha, ht, hr.nilm_inv, run_underlying hu, goInt]
  · obtain ⟨r', hx, hs, hr'⟩ := hr.map_inv
    obtain ⟨es, cl, g1, g2⟩ := mapK_t e1
    obtain ⟨d, n, es', _, q2, q3, _⟩ := H.mapAt hs hr' g1
    rw [fN_eq] at g2
    refine .same H ?_ (.int _ _) g2
    rw [run_builtin ho hc]
    have := q3.length
    simp [builtin, Builtin.len_, ha, ht, hx, run_underlying hu, goInt, getObj, Sem.run, q2, this]
theorem snd_lenArr {c : Call} {x : Operand} {t e' : TypeId} {n : Nat} (ho : o.op = .call c) (hc : c.callee = .builtin .len) (ha : c.args = #[x]) (ht : c.argTypes[0]? = some t) (hu : P.underlying t = some (.array n e')) (H : HR P w0 φ h w) (e : ev_lenArr n vs h k = true) : PR P w0 φ h ((execOp ρ o).run P w) fun v h' => k v h' = true := by
  obtain ⟨p, hsub, e1⟩ := a1_t e; clear e; subst hsub; have e := e1; clear e1
  refine .same H ?_ (.int _ _) e
  rw [run_builtin ho hc]
  simp only [builtin, Builtin.len_, ha, ht]
  generalize ρ x = X
  cases X <;> simp [run_underlying hu, goInt]
end
end Go.Ve
