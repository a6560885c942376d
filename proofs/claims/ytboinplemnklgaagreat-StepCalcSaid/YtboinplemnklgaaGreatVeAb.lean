/- VEval, part 14: one operation in a region, one step of the machine or a call. No condition. -/
import Derived.Test.YtboinplemnklgaaGreatVeA
set_option linter.unusedVariables false
set_option linter.unusedSimpArgs false
namespace Go.Ve
open Go.RowKit

/-! ### What the evaluator's state stands for -/
def RcR (φ : Phi) (rc : Rc) (b : Frame) (cs0 cs : List Frame) : Prop := match rc with
  | .off => cs = cs0 ∧ (b.kind = .normal ∨ (b.kind = .deferred ∧ ∃ c rest, cs0 = c :: rest ∧ c.mode = .returning))
  | .can v => cs = cs0 ∧ b.kind = .deferred ∧ ∃ c rest v', cs0 = c :: rest ∧ c.mode = .panicking [{ v := v', recovered := false }] ∧ VR φ v v'
  | .did => b.kind = .deferred ∧ ∃ c rest v', cs0 = c :: rest ∧ c.mode = .panicking [{ v := v', recovered := false }] ∧ cs = { c with mode := .panicking [{ v := v', recovered := true }] } :: rest
def EnvR (φ : Phi) (e : Env) (b : Frame) : Prop := b.fn = e.fn ∧ match e.rnd with
  | none => b.roundOf = none
  | some l => b.kind = .normal ∧ ∃ l', b.roundOf = some l' ∧ φ l ≠ none ∧ ∀ bl d n, φ l = some (.live bl d n) → l' = bl
/-- all but the slots -/
structure SQ (P : Program) (w0 : World) (φ : Phi) (s : St) (b : Frame) (cs0 cs : List Frame) (a : Act) (w : World) : Prop where
  df : DL φ s.df a.defers
  rc : RcR φ s.rc b cs0 cs
  heap : HR P w0 φ s.h w
structure SR (P : Program) (w0 : World) (φ : Phi) (e : Env) (s : St) (b : Frame) (cs0 cs : List Frame) (a : Act) (w : World) : Prop extends SQ P w0 φ s b cs0 cs a w where
  tm : TR φ s.tm e.nt a.tmps

theorem RcR.ext {N : Nat} {φ φ' : Phi} (h : Ext N φ φ') {rc : Rc} {b : Frame} {cs0 cs : List Frame} (hr : RcR φ rc b cs0 cs) : RcR φ' rc b cs0 cs := by
  cases rc with
  | off => exact hr
  | can v => obtain ⟨h1, h2, c, rest, v', h3, h4, h5⟩ := hr; exact ⟨h1, h2, c, rest, v', h3, h4, VR.ext h h5⟩
  | did => exact hr
theorem EnvR.ext {N : Nat} {φ φ' : Phi} (h : Ext N φ φ') {e : Env} {b : Frame} (he : EnvR φ e b) : EnvR φ' e b := by
  obtain ⟨h1, h2⟩ := he
  refine ⟨h1, ?_⟩
  cases hr : e.rnd with
  | none => rw [hr] at h2; exact h2
  | some l =>
    rw [hr] at h2
    obtain ⟨h3, l', h4, h5, h6⟩ := h2
    exact ⟨h3, l', h4, h.keep h5, fun bl d n hl => h6 bl d n (h.live h5 hl)⟩

/-! ### Steps -/
section
variable {P : Program} {b : Frame} {a : Act} {k : List Item} {cs : List Frame} {w : World} {ops : Array Oper} {i : Nat} {rest : List Nat} {o : Oper}

theorem stR_value (ho : ops[i]? = some o) (hw : Region.wanted o (yielded ops a.tmps) = true) {v : Value} {w' : World} (hr : (o.semAt b.roundOf a.eval).run P w = .ok (.value v) w') :
    step P (lone (b.atR a (.inRegion ops (i :: rest) :: k)) cs w) = .next (lone (b.atR (a.put o.dst v) (.inRegion ops rest :: k)) cs w') := by
  have hf := Frame.finish_atR b a ops i rest k v
  rw [ho] at hf
  rw [show a.put o.dst v = a.put ((some o).bind (·.dst)) v from rfl, ← hf]
  exact step_lone_go (by rw [stepGR_op ho hw]; simp [stepG.apply, hr])
theorem stR_skip (ho : ops[i]? = some o) (hw : Region.wanted o (yielded ops a.tmps) = true) {w' : World} (hr : (o.semAt b.roundOf a.eval).run P w = .ok .skip w') :
    step P (lone (b.atR a (.inRegion ops (i :: rest) :: k)) cs w) = .next (lone (b.atR (a.put o.dst undef) (.inRegion ops rest :: k)) cs w') := by
  have hf := Frame.finish_atR b a ops i rest k undef
  rw [ho] at hf
  rw [show a.put o.dst undef = a.put ((some o).bind (·.dst)) undef from rfl, ← hf]
  exact step_lone_go (by rw [stepGR_op ho hw]; simp [stepG.apply, hr])
theorem stR_enter (ho : ops[i]? = some o) (hw : Region.wanted o (yielded ops a.tmps) = true) {f : FuncId} {args : Array Value} {w' : World} (hr : (o.semAt b.roundOf a.eval).run P w = .ok (.enter f args) w') :
    step P (lone (b.atR a (.inRegion ops (i :: rest) :: k)) cs w) = .next (lone (Frame.enter P f args .normal) (b.atR a (.inRegion ops (i :: rest) :: k) :: cs) w') :=
  step_lone_go (by rw [stepGR_op ho hw]; simp [stepG.apply, hr, Frame.atR])
theorem stR_round (ho : ops[i]? = some o) (hw : Region.wanted o (yielded ops a.tmps) = true) {l : Nat} {f : FuncId} {tmps : Array Value} {as bd : Code} {w' : World} (hr : (o.semAt b.roundOf a.eval).run P w = .ok (.round l f tmps as bd) w') :
    step P (lone (b.atR a (.inRegion ops (i :: rest) :: k)) cs w) = .next (lone (Frame.round l f tmps as bd .normal) (b.atR a (.inRegion ops (i :: rest) :: k) :: cs) w') :=
  step_lone_go (by rw [stepGR_op ho hw]; simp [stepG.apply, hr, Frame.atR])
theorem stR_defer (ho : ops[i]? = some o) (hw : Region.wanted o (yielded ops a.tmps) = true) {d : Deferred} {w' : World} (hr : (o.semAt b.roundOf a.eval).run P w = .ok (.defer d) w') :
    step P (lone (b.atR a (.inRegion ops (i :: rest) :: k)) cs w) = .next (lone (b.atR (({ a with defers := d :: a.defers } : Act).put o.dst undef) (.inRegion ops rest :: k)) cs w') := by
  have hf := Frame.finish_atR b { a with defers := d :: a.defers } ops i rest k undef
  rw [ho] at hf
  rw [show ({ a with defers := d :: a.defers } : Act).put o.dst undef = ({ a with defers := d :: a.defers } : Act).put ((some o).bind (·.dst)) undef from rfl, ← hf]
  exact step_lone_go (by rw [stepGR_op ho hw]; simp [stepG.apply, hr, Frame.atR])
theorem stR_panic (ho : ops[i]? = some o) (hw : Region.wanted o (yielded ops a.tmps) = true) {v : Value} {w' : World} (hr : (o.semAt b.roundOf a.eval).run P w = .halt (.panic v) w') :
    step P (lone (b.atR a (.inRegion ops (i :: rest) :: k)) cs w) = .next (lone { b.atR a (.inRegion ops (i :: rest) :: k) with mode := .panicking [{ v, recovered := false }] } cs w') := by
  rw [← Frame.raise_atR]
  exact step_lone_go (by rw [stepGR_op ho hw]; simp [stepG.apply, hr])
theorem stR_recover (hb : b.roundOf = none) (ho : ops[i]? = some o) (hw : Region.wanted o (yielded ops a.tmps) = true) {w' : World} (hr : (o.semAt b.roundOf a.eval).run P w = .ok .recover w') {v : Value} {cs' : List Frame}
    (ht : (tryRecover (b.atR a (.inRegion ops (i :: rest) :: k)) cs = some (v, cs')) ∨ (tryRecover (b.atR a (.inRegion ops (i :: rest) :: k)) cs = none ∧ v = .nilIface ∧ cs' = cs)) :
    step P (lone (b.atR a (.inRegion ops (i :: rest) :: k)) cs w) = .next (lone (b.atR (a.put o.dst v) (.inRegion ops rest :: k)) cs' w') := by
  have hf := Frame.finish_atR b a ops i rest k v
  rw [ho] at hf
  rw [show a.put o.dst v = a.put ((some o).bind (·.dst)) v from rfl, ← hf]
  refine step_lone_go ?_
  rw [stepGR_op ho hw]
  have hb' : (b.atR a (.inRegion ops (i :: rest) :: k)).roundOf = none := hb
  rcases ht with ht | ⟨ht, rfl, rfl⟩
  · simp [stepG.apply, hr, hb', ht]
  · simp [stepG.apply, hr, hb', ht]
end

/-! ### The tasks -/
def CRok (φ : Phi) (r : CR) (E : Ending) : Prop := match r with
  | .ret v => ∃ v', E = .returned v' ∧ VR φ v v'
  | .pan v => ∃ v', E = .panicked [{ v := v', recovered := false }] ∧ VR φ v v'

/-- a function that may be entered -/
def Can (P : Program) (f : FuncId) : Prop := ∃ fn, P.funcs[f]? = some fn ∧ (fn.name == "runtime.NumGoroutine") = false ∧ fn.body.isNone = false

def CallOk (P : Program) (w0 : World) (f : FuncId) (args : List Value) (h : AH) (k : CR → AH → Bool) : Prop :=
  Can P f ∧ ∀ (φ : Phi) (args' : Array Value) (w : World), LR φ args args'.toList → HR P w0 φ h w → Calls P f args' w fun E w' => ∃ r h' φ', k r h' = true ∧ Ext h.nx φ φ' ∧ h.nx ≤ h'.nx ∧ HR P w0 φ' h' w' ∧ CRok φ' r E

def RoundOk (P : Program) (w0 : World) (l : Nat) (args : List Value) (h : AH) (k : CR → AH → Bool) : Prop :=
  ∀ (φ : Phi) (args' : Array Value) (l' : Nat) (w : World), LR φ args args'.toList → φ l ≠ none → (∀ b d n, φ l = some (.live b d n) → l' = b) → HR P w0 φ h w →
    ∃ f tmps as bd, (Instr.yield l' args').run P w = .ok (.round l' f tmps as bd) w ∧ ∀ (c : Frame) (cs : List Frame), ∃ v v' h' φ' w', k (.ret v) h' = true ∧ Ext h.nx φ φ' ∧ h.nx ≤ h'.nx ∧ HR P w0 φ' h' w' ∧ VR φ' v v' ∧
      Steps P (lone (Frame.round l' f tmps as bd .normal) (c :: cs) w) (lone (c.finish v') cs w')

/-- mode of a frame that is being left -/
def MoR (φ : Phi) (m : Option Value) (u : FrameMode) : Prop := match m with
  | none => u = .returning
  | some v => ∃ v', u = .panicking [{ v := v', recovered := false }] ∧ VR φ v v'

/-- what is asked of the caller behind a deferred call -/
def RcEnd (φ : Phi) (rc : Rc) (c c' : Frame) : Prop := match rc with
  | .off => c' = c ∧ c.mode = .returning
  | .can v => c' = c ∧ ∃ v', c.mode = .panicking [{ v := v', recovered := false }] ∧ VR φ v v'
  | .did => ∃ v', c.mode = .panicking [{ v := v', recovered := false }] ∧ c' = { c with mode := .panicking [{ v := v', recovered := true }] }

def RcStart (φ : Phi) (rc : Rc) (c : Frame) : Prop := match rc with
  | .off => c.mode = .returning
  | .can v => ∃ v', c.mode = .panicking [{ v := v', recovered := false }] ∧ VR φ v v'
  | .did => False

def DcallOk (P : Program) (w0 : World) (f : FuncId) (args : List Value) (rc : Rc) (h : AH) (k : Rc → AH → Bool) : Prop :=
  Can P f ∧ ∀ (φ : Phi) (args' : Array Value) (w : World) (c : Frame) (cs : List Frame), LR φ args args'.toList → HR P w0 φ h w → RcStart φ rc c →
    ∃ rc' h' φ' w' c' fr v, k rc' h' = true ∧ Ext h.nx φ φ' ∧ h.nx ≤ h'.nx ∧ HR P w0 φ' h' w' ∧ RcEnd φ' rc' c c' ∧
      Steps P (lone (Frame.enter P f args' .deferred) (c :: cs) w) (lone fr (c' :: cs) w') ∧ fr.kind = .deferred ∧ fr.going P w' (.returned v)

def LeaveOk (P : Program) (w0 : World) (ds : List ADef) (m : Option Value) (h : AH) (k : Option Value → AH → Bool) : Prop :=
  ∀ (φ : Phi) (fr : Frame) (cs : List Frame) (w : World), DL φ ds fr.defers → MoR φ m fr.mode → HR P w0 φ h w →
    ∃ m' h' φ' w' u, k m' h' = true ∧ Ext h.nx φ φ' ∧ h.nx ≤ h'.nx ∧ HR P w0 φ' h' w' ∧ MoR φ' m' u ∧ Steps P (lone fr cs w) (lone { fr with defers := [], mode := u } cs w')

/-- where code arrives -/
def Arr (P : Program) (φ : Phi) (m : Machine) (b : Frame) (todo : List Item) (x : AX) (cs : List Frame) (a : Act) (w : World) : Prop := match x with
  | .normal => Steps P m (lone (b.atR a todo) cs w)
  | .exit id => ∃ k1, exitTo id k1 = exitTo id todo ∧ Steps P m (lone (b.atR a (.code (.exit id) :: k1)) cs w)
  | .ret => ∃ k1, Steps P m (lone (b.atR a (.code .ret :: k1)) cs w)
  | .pan v => ∃ k1 v', VR φ v v' ∧ Steps P m (lone { b.atR a k1 with mode := .panicking [{ v := v', recovered := false }] } cs w)

def SX (P : Program) (w0 : World) (φ : Phi) (e : Env) (x : AX) (s : St) (b : Frame) (cs0 cs : List Frame) (a : Act) (w : World) : Prop := match x with
  | .pan _ => SQ P w0 φ s b cs0 cs a w
  | _ => SR P w0 φ e s b cs0 cs a w

/-- from a point on, with these things to do, the evaluator's continuation is met -/
def Goes (P : Program) (w0 : World) (φ : Phi) (N : Nat) (e : Env) (b : Frame) (cs0 : List Frame) (m : Machine) (todo : List Item) (k : KS) : Prop :=
  ∃ x s' φ' cs' a' w', k x s' = true ∧ Ext N φ φ' ∧ N ≤ s'.h.nx ∧ SX P w0 φ' e x s' b cs0 cs' a' w' ∧ Arr P φ' m b todo x cs' a' w'

/-- what stands for the code: it, or a loop that comes round again -/
def Starts (c : Code) (it : Item) : Prop := it = .code c ∨ ∃ c', c = .loop c' ∧ it = .inLoop c'

def CodeOk (P : Program) (w0 : World) (c : Code) (e : Env) (s : St) (k : KS) : Prop :=
  ∀ (φ : Phi) (b : Frame) (cs0 cs : List Frame) (a : Act) (w : World), SR P w0 φ e s b cs0 cs a w → EnvR φ e b → ∀ it, Starts c it → ∀ todo, Goes P w0 φ s.h.nx e b cs0 (lone (b.atR a (it :: todo)) cs w) todo k

def TaskOk (P : Program) (w0 : World) : Task → Prop
  | .code ac e s k => ∀ c, cCode P e.nt c = some ac → CodeOk P w0 c e s k
  | .call f args h k => CallOk P w0 f args h k
  | .dcall f args rc h k => DcallOk P w0 f args rc h k
  | .round l args h k => RoundOk P w0 l args h k
  | .leave ds m h k => LeaveOk P w0 ds m h k

theorem Arr.of_steps {P : Program} {φ : Phi} {m m1 : Machine} {b : Frame} {todo : List Item} {x : AX} {cs : List Frame} {a : Act} {w : World} (h : Steps P m m1) (ha : Arr P φ m1 b todo x cs a w) : Arr P φ m b todo x cs a w := by
  cases x with
  | normal => exact h.trans ha
  | exit id => obtain ⟨k1, h1, h2⟩ := ha; exact ⟨k1, h1, h.trans h2⟩
  | ret => obtain ⟨k1, h2⟩ := ha; exact ⟨k1, h.trans h2⟩
  | pan v => obtain ⟨k1, v', h1, h2⟩ := ha; exact ⟨k1, v', h1, h.trans h2⟩
theorem Goes.of_steps {P : Program} {w0 : World} {φ φ1 : Phi} {N N1 : Nat} {e : Env} {b : Frame} {cs0 : List Frame} {m m1 : Machine} {todo : List Item} {k : KS} (hE : Ext N φ φ1) (hN : N ≤ N1) (h : Steps P m m1) (g : Goes P w0 φ1 N1 e b cs0 m1 todo k) : Goes P w0 φ N e b cs0 m todo k := by
  obtain ⟨x, s', φ', cs', a', w', h1, h2, h3, h4, h5⟩ := g
  exact ⟨x, s', φ', cs', a', w', h1, hE.trans h2 hN, Nat.le_trans hN h3, h4, h5.of_steps h⟩

/-! ### One operation -/
theorem run_callFunc {P : Program} {w : World} {f : FuncId} (hc : Can P f) (args : Array Value) : (callFunc f args).run P w = .ok (.enter f args) w := by
  obtain ⟨fn, h1, h2, h3⟩ := hc
  have h2' : fn.name ≠ "runtime.NumGoroutine" := by simpa using h2
  have h3' : fn.body ≠ none := by intro hn; rw [hn] at h3; cases h3
  simp [callFunc, Sem.run_bind, program, Sem.run, Result.andThen, h1, h2', h3']
theorem run_invoke_fn {P : Program} {w : World} {f : FuncId} (hc : Can P f) (capt args : Array Value) : (invoke (.fn (.func f) capt) args).run P w = .ok (.enter f (args ++ capt)) w := run_callFunc hc _

section
variable {P : Program} {w0 w : World} {φ : Phi} {e : Env} {s : St} {b : Frame} {cs0 cs : List Frame} {a : Act} {ops : Array Oper} {i : Nat} {o : Oper} {rest : List Nat} {todo : List Item}

/-- What comes of one operation: it gives a value, and the evaluator goes on with one that it stands for; or it panics. -/
def ActOk (P : Program) (w0 : World) (φ : Phi) (s : St) (b : Frame) (cs0 cs : List Frame) (a : Act) (w : World) (ops : Array Oper) (i : Nat) (o : Oper) (rest : List Nat) (todo : List Item) (dst : Option Pos) (fail : KS) (k : St → Bool) : Prop :=
  (∃ v v' s1 φ' w' cs' ds', putD dst s1 v s1.h k = true ∧ s1.tm = s.tm ∧ Ext s.h.nx φ φ' ∧ s.h.nx ≤ s1.h.nx ∧ VR φ' v v' ∧ SQ P w0 φ' s1 b cs0 cs' { a with defers := ds' } w' ∧
    Steps P (lone (b.atR a (.inRegion ops (i :: rest) :: todo)) cs w) (lone (b.atR (({ a with defers := ds' } : Act).put o.dst v') (.inRegion ops rest :: todo)) cs' w')) ∨
  (∃ v v' s1 φ' w', fail (.pan v) s1 = true ∧ Ext s.h.nx φ φ' ∧ s.h.nx ≤ s1.h.nx ∧ VR φ' v v' ∧ SQ P w0 φ' s1 b cs0 cs a w' ∧
    Steps P (lone (b.atR a (.inRegion ops (i :: rest) :: todo)) cs w) (lone { b.atR a (.inRegion ops (i :: rest) :: todo) with mode := .panicking [{ v := v', recovered := false }] } cs w'))

theorem putD_h (dst : Option Pos) (s : St) (v : Value) (h : AH) (k : St → Bool) : putD dst s v h k = putD dst ⟨s.tm, s.df, s.rc, h⟩ v h k := by cases s; rfl

theorem semAt_ne (hd : ∀ c, o.op ≠ .defer c) : o.semAt b.roundOf a.eval = execOp a.eval o := Oper.semAt_eq _ _ _ hd

theorem cOp_prim_ne {p : Prim} {xs : List Operand} (hc : cOp P o = some (.prim p, xs)) : ∀ c, o.op ≠ .defer c := by
  intro c hop
  simp only [cOp, hop] at hc
  split at hc <;> cases hc

theorem act_prim {p : Prim} {xs : List Operand} {dst : Option Pos} {fail : KS} {k : St → Bool} {vs : List Value} {rec : Task → Bool} (ho : ops[i]? = some o) (hw : Region.wanted o (yielded ops a.tmps) = true)
    (hc : cOp P o = some (.prim p, xs)) (hq : SQ P w0 φ s b cs0 cs a w) (hv : LR φ vs (xs.map a.eval)) (h : actPrim rec dst e s fail k vs p = true) : ActOk P w0 φ s b cs0 cs a w ops i o rest todo dst fail k := by
  obtain ⟨v', w', v, h', φ', h1, h2, h3, h4, h5, h6⟩ := prim_sound hc hq.heap hv h
  refine .inl ⟨v, v', ⟨s.tm, s.df, s.rc, h'⟩, φ', w', cs, a.defers, ?_, rfl, h3, h4, h5, ⟨hq.df.ext h3, hq.rc.ext h3, h6⟩, ?_⟩
  · rw [putD_h] at h2; exact h2
  · have hs := semAt_ne (b := b) (a := a) (cOp_prim_ne hc)
    rcases h1 with h1 | ⟨h1, rfl⟩
    · exact .one (stR_value ho hw (by rw [hs]; exact h1))
    · exact .one (stR_skip ho hw (by rw [hs]; exact h1))

/-- behind a call -/
theorem act_called {f : FuncId} {args' : Array Value} {as : List Value} {dst : Option Pos} {fail : KS} {k : St → Bool} (ho : ops[i]? = some o) (hw : Region.wanted o (yielded ops a.tmps) = true)
    (hr : (o.semAt b.roundOf a.eval).run P w = .ok (.enter f args') w) (hq : SQ P w0 φ s b cs0 cs a w) (hl : LR φ as args'.toList) (hcall : CallOk P w0 f as s.h (retK dst s fail k)) : ActOk P w0 φ s b cs0 cs a w ops i o rest todo dst fail k := by
  obtain ⟨E, w', fr, ⟨r, h', φ', hk, hE, hN, hH, hrok⟩, hcomes, hfn, hleave⟩ := hcall.2 φ args' w hl hq.heap (b.atR a (.inRegion ops (i :: rest) :: todo) :: cs)
  have henter := stR_enter (k := todo) (rest := rest) (cs := cs) ho hw hr
  cases r with
  | ret v =>
    obtain ⟨v', rfl, hv'⟩ := hrok
    refine .inl ⟨v, v', ⟨s.tm, s.df, s.rc, h'⟩, φ', w', cs, a.defers, ?_, rfl, hE, hN, hv', ⟨hq.df.ext hE, hq.rc.ext hE, hH⟩, .head henter (Steps.trans hcomes (.one ?_))⟩
    · have hk' : putD dst s v h' k = true := hk
      rw [putD_h] at hk'; exact hk'
    · have := step_leave_returned (c := b.atR a (.inRegion ops (i :: rest) :: todo)) (cs := cs) hleave
      rw [Frame.finish_atR, ho] at this
      exact this
  | pan v =>
    obtain ⟨v', rfl, hv'⟩ := hrok
    refine .inr ⟨v, v', ⟨s.tm, s.df, s.rc, h'⟩, φ', w', ?_, hE, hN, hv', ⟨hq.df.ext hE, hq.rc.ext hE, hH⟩, .head henter (Steps.trans hcomes (.one ?_))⟩
    · cases s; exact hk
    · have := step_leave_panicked (c := b.atR a (.inRegion ops (i :: rest) :: todo)) (cs := cs) hleave
      rw [Frame.raise_atR] at this
      exact this

theorem act_call {g : FuncId} {c : Call} {as : List Value} {dst : Option Pos} {fail : KS} {k : St → Bool} {rec : Task → Bool} (hrec : ∀ t, rec t = true → TaskOk P w0 t) (ho : ops[i]? = some o) (hw : Region.wanted o (yielded ops a.tmps) = true)
    (hop : o.op = .call c) (hcal : c.callee = .value (.func g)) (hq : SQ P w0 φ s b cs0 cs a w) (hl : LR φ as (c.args.toList.map a.eval)) (h : actCall rec dst e s fail k as g = true) : ActOk P w0 φ s b cs0 cs a w ops i o rest todo dst fail k := by
  have hC := hrec _ h
  have hC' : CallOk P w0 g as s.h (retK dst s fail k) := hC
  refine act_called (args' := c.args.map a.eval) ho hw ?_ hq (by simpa using hl) hC'
  rw [semAt_ne (by intro c' h'; rw [hop] at h'; cases h')]
  have he : a.eval (.func g) = .func (.func g) #[] #[] := rfl
  simp [execOp, hop, resolve, hcal, he, Deferred.ofValue, Sem.run_bind, Result.andThen, run_invoke_fn hC'.1]

theorem run_call_value {P : Program} {w : World} {ρ : Operand → Value} {o : Oper} {c : Call} {f : Operand} {fn : Fn} {first capt : Array Value} (hop : o.op = .call c) (hcal : c.callee = .value f) (hf : ρ f = .func fn first capt) :
    (execOp ρ o).run P w = (invoke (.fn fn capt) (first ++ c.args.map ρ)).run P w := by
  simp [execOp, hop, resolve, hcal, hf, Deferred.ofValue, Sem.run_bind, Result.andThen]

theorem LR.nil_inv {φ : Phi} {l : List Value} (h : LR φ [] l) : l = [] := by cases h; rfl

theorem funcK_t {v : Value} {kf : Nat → List Value → List Value → Bool} {ky : Nat → Bool} (h : funcK v kf ky = true) :
    (∃ g first capt, v = .func (.func g) first capt ∧ kf g first.toList capt.toList = true) ∨ ∃ l, v = .func (.yield l) #[] #[] ∧ ky l = true := by
  unfold funcK at h
  split at h
  · exact .inl ⟨_, _, _, rfl, h⟩
  · exact .inr ⟨_, rfl, h⟩
  · cases h

theorem act_dyn {f : Operand} {c : Call} {as : List Value} {dst : Option Pos} {fail : KS} {k : St → Bool} {rec : Task → Bool} (hrec : ∀ t, rec t = true → TaskOk P w0 t) (ho : ops[i]? = some o) (hw : Region.wanted o (yielded ops a.tmps) = true)
    (hop : o.op = .call c) (hcal : c.callee = .value f) (hq : SQ P w0 φ s b cs0 cs a w) (hl : LR φ as ((f :: c.args.toList).map a.eval)) (h : actDyn rec dst e s fail k as = true) : ActOk P w0 φ s b cs0 cs a w ops i o rest todo dst fail k := by
  cases hl with
  | cons fv fv' as as' hf hl =>
    have hne : ∀ c', o.op ≠ .defer c' := by intro c' h'; rw [hop] at h'; cases h'
    have h' : funcK fv (fun g first capt => appL as capt fun l => appL first l fun l => rec (.call g l s.h (retK dst s fail k))) (fun l => rec (.round l as s.h (retK dst s fail k))) = true := h
    rcases funcK_t h' with ⟨g, first, capt, rfl, h1⟩ | ⟨l, rfl, h1⟩
    · have hC' : CallOk P w0 g (first.toList ++ (as ++ capt.toList)) s.h (retK dst s fail k) := hrec _ (appL_t _ _ (appL_t _ _ h1))
      generalize hfv : a.eval f = fv' at hf
      cases hf with
      | func _ fn' _ first' _ capt' hfn h2 h3 =>
        cases hfn
        refine act_called (args' := (first' ++ c.args.map a.eval) ++ capt') ho hw ?_ hq ?_ hC'
        · rw [semAt_ne hne]
          simp [execOp, hop, resolve, hcal, hfv, Deferred.ofValue, Sem.run_bind, Result.andThen, run_invoke_fn hC'.1]
        · have := LR.append (LR.append h3 hl) h2
          simpa using this
    · have hC' : RoundOk P w0 l as s.h (retK dst s fail k) := hrec _ h1
      generalize hfv : a.eval f = fv' at hf
      cases hf with
      | func _ fn' _ first' _ capt' hfn h2 h3 =>
        have hfirst : first' = #[] := Array.toList_eq_nil_iff.1 (LR.nil_inv h2)
        have hcapt : capt' = #[] := Array.toList_eq_nil_iff.1 (LR.nil_inv h3)
        subst hfirst; subst hcapt
        cases hfn with
        | yield _ l' hm hm' =>
          obtain ⟨f2, tmps, asg, bd, hy, hrest⟩ := hC' φ (c.args.map a.eval) l' w (by simpa using hl) hm hm' hq.heap
          obtain ⟨v, v', h', φ', w', hk, hE, hN, hH, hv', hsteps⟩ := hrest (b.atR a (.inRegion ops (i :: rest) :: todo)) cs
          have henter := stR_round (b := b) (a := a) (k := todo) (rest := rest) (cs := cs) ho hw (l := l') (f := f2) (tmps := tmps) (as := asg) (bd := bd) (w' := w) (w := w) (by
            rw [semAt_ne hne, run_call_value hop hcal hfv]
            simp only [Array.empty_append]
            exact hy)
          refine .inl ⟨v, v', ⟨s.tm, s.df, s.rc, h'⟩, φ', w', cs, a.defers, ?_, rfl, hE, hN, hv', ⟨hq.df.ext hE, hq.rc.ext hE, hH⟩, .head henter ?_⟩
          · have hk' : putD dst s v h' k = true := hk
            rw [putD_h] at hk'; exact hk'
          · rw [Frame.finish_atR, ho] at hsteps
            exact hsteps
end
end Go.Ve
/- VEval, part 15: recover, panic, defer; one operation with its guard. No condition. -/
namespace Go.Ve
open Go.RowKit
section
variable {P : Program} {w0 w : World} {φ : Phi} {e : Env} {s : St} {b : Frame} {cs0 cs : List Frame} {a : Act} {ops : Array Oper} {i : Nat} {o : Oper} {rest : List Nat} {todo : List Item}

theorem run_builtin_recover {ρ : Operand → Value} {c : Call} (hop : o.op = .call c) (hcal : c.callee = .builtin .recover) : (execOp ρ o).run P w = .ok .recover w := by
  simp [execOp, hop, resolve, hcal, Sem.run_bind, Result.andThen, invoke, builtin]

theorem act_recover {c : Call} {as : List Value} {dst : Option Pos} {fail : KS} {k : St → Bool} (ho : ops[i]? = some o) (hw : Region.wanted o (yielded ops a.tmps) = true)
    (hop : o.op = .call c) (hcal : c.callee = .builtin .recover) (hq : SQ P w0 φ s b cs0 cs a w) (he : EnvR φ e b) (h : actRecover dst e s k as = true) : ActOk P w0 φ s b cs0 cs a w ops i o rest todo dst fail k := by
  unfold actRecover at h
  split at h
  · rename_i hr0
    obtain ⟨_, hro⟩ := he
    rw [hr0] at hro
    have hro' : b.roundOf = none := hro
    have hrun : (o.semAt b.roundOf a.eval).run P w = .ok .recover w := by
      rw [semAt_ne (by intro c' h'; rw [hop] at h'; cases h')]; exact run_builtin_recover hop hcal
    have hrc := hq.rc
    split at h
    · rename_i v hcan
      rw [hcan] at hrc
      obtain ⟨rfl, hk, c1, rest1, v', rfl, hm, hv⟩ := hrc
      have ht : tryRecover (b.atR a (.inRegion ops (i :: rest) :: todo)) (c1 :: rest1) = some (v', { c1 with mode := .panicking [{ v := v', recovered := true }] } :: rest1) := by
        simp [tryRecover, Frame.atR, hk, hm]
      refine .inl ⟨v, v', ⟨s.tm, s.df, .did, s.h⟩, φ, w, _, a.defers, h, rfl, Ext.refl _ _, Nat.le_refl _, hv, ⟨hq.df, ⟨hk, c1, rest1, v', rfl, hm, rfl⟩, hq.heap⟩, .one (stR_recover hro' ho hw hrun (.inl ht))⟩
    · rename_i hnc
      have ht : tryRecover (b.atR a (.inRegion ops (i :: rest) :: todo)) cs = none := by
        cases hrc0 : s.rc with
        | can v => exact absurd hrc0 (hnc v)
        | off =>
          rw [hrc0] at hrc
          obtain ⟨rfl, hk | ⟨hk, c1, rest1, rfl, hm⟩⟩ := hrc
          · simp [tryRecover, Frame.atR, hk]
          · simp [tryRecover, Frame.atR, hk, hm]
        | did =>
          rw [hrc0] at hrc
          obtain ⟨hk, c1, rest1, v', _, _, rfl⟩ := hrc
          simp [tryRecover, Frame.atR, hk]
      refine .inl ⟨.nilIface, .nilIface, s, φ, w, cs, a.defers, h, rfl, Ext.refl _ _, Nat.le_refl _, .nili, ⟨hq.df, hq.rc, hq.heap⟩, .one (stR_recover hro' ho hw hrun (.inr ⟨ht, rfl, rfl⟩))⟩
  · cases h

theorem run_panic_iface {t : TypeId} {v : Value} : (Instr.panic (.iface t v)).run P w = .halt (.panic (.iface t v)) w := by
  simp [Instr.panic, goPanic, Sem.run]

theorem actPanic_t {fail : KS} {as : List Value} (h : actPanic s fail as = true) : ∃ t x, as = [.iface t x] ∧ fail (.pan (.iface t x)) s = true := by
  obtain ⟨v, rfl, h1⟩ := a1_t (show a1 as _ = true from h)
  cases v <;> first | exact ⟨_, _, rfl, h1⟩ | cases h1

theorem act_panic {x : Operand} {as : List Value} {dst : Option Pos} {fail : KS} {k : St → Bool} (ho : ops[i]? = some o) (hw : Region.wanted o (yielded ops a.tmps) = true)
    (hop : o.op = .panic x ∨ ∃ c, o.op = .call c ∧ c.callee = .builtin .panic ∧ c.args.toList = [x]) (hq : SQ P w0 φ s b cs0 cs a w) (hl : LR φ as ([x].map a.eval)) (h : actPanic s fail as = true) : ActOk P w0 φ s b cs0 cs a w ops i o rest todo dst fail k := by
  obtain ⟨t, v, rfl, h1⟩ := actPanic_t h
  obtain ⟨v', hl', hv⟩ := LR.one hl
  have hx : a.eval x = v' := by simpa using hl'
  cases hv with
  | iface _ _ u hu =>
    refine .inr ⟨_, _, s, φ, w, h1, Ext.refl _ _, Nat.le_refl _, .iface t v u hu, ⟨hq.df, hq.rc, hq.heap⟩, .one (stR_panic ho hw ?_)⟩
    rcases hop with hop | ⟨c, hop, hcal, hargs⟩
    · rw [semAt_ne (by intro c' h'; rw [hop] at h'; cases h')]
      simp [execOp, hop, hx, Sem.run_bind, run_panic_iface, Result.andThen]
    · rw [semAt_ne (by intro c' h'; rw [hop] at h'; cases h')]
      have hm : c.args = #[x] := by rw [← hargs]
      simp [execOp, hop, resolve, hcal, hm, hx, Sem.run_bind, Result.andThen, invoke, builtin, run_panic_iface]

theorem act_defer {f : Operand} {c : Call} {as : List Value} {dst : Option Pos} {fail : KS} {k : St → Bool} (ho : ops[i]? = some o) (hw : Region.wanted o (yielded ops a.tmps) = true)
    (hop : o.op = .defer c) (hcal : c.callee = .value f) (hq : SQ P w0 φ s b cs0 cs a w) (he : EnvR φ e b) (hl : LR φ as ((f :: c.args.toList).map a.eval)) (h : actDefer dst e s k as = true) : ActOk P w0 φ s b cs0 cs a w ops i o rest todo dst fail k := by
  unfold actDefer at h
  split at h
  · rename_i fv as' hr0
    obtain ⟨_, hro⟩ := he
    rw [hr0] at hro
    have hro' : b.roundOf = none := hro
    rcases funcK_t h with ⟨g, first, capt, rfl, h1⟩ | ⟨l, rfl, h1⟩
    · have h2 := appL_t _ _ (appL_t _ _ h1)
      cases hl with
      | cons _ fv' _ as'' hf hl =>
        generalize hfv : a.eval f = fv' at hf
        cases hf with
        | func _ fn' _ first' _ capt' hfn h3 h4 =>
          cases hfn
          have hrun : (o.semAt b.roundOf a.eval).run P w = .ok (.defer { target := .fn (.func g) capt', args := first' ++ c.args.map a.eval }) w := by
            rw [hro', Oper.semAt_none]
            simp [execOp, hop, resolve, hcal, hfv, Deferred.ofValue, Sem.run_bind, Result.andThen]
          refine .inl ⟨undef, undef, ⟨s.tm, .fn g (first.toList ++ (as' ++ capt.toList)) :: s.df, s.rc, s.h⟩, φ, w, cs, { target := .fn (.func g) capt', args := first' ++ c.args.map a.eval } :: a.defers, h2, rfl, Ext.refl _ _, Nat.le_refl _, VR.undef φ, ⟨?_, hq.rc, hq.heap⟩, .one (stR_defer ho hw hrun)⟩
          refine .cons _ _ _ _ ⟨capt', _, rfl, ?_⟩ hq.df
          have := LR.append (LR.append h4 hl) h3
          simpa using this
    · cases h1
  · cases h

/-! ### Guards and operands -/
theorem opd_sound {x : Operand} {y : Opd} {k : Value → Bool} (hc : cOpd x = some y) (hr : ∀ p, y = .t p → VR φ (s.tm.get p) (a.tmps.getD p.un undef)) (h : opdK y s.tm k = true) : ∃ v, VR φ v (a.eval x) ∧ k v = true := by
  cases x with
  | tmp t =>
    cases hc
    have h' : PT.getK (Pos.of t) s.tm k = true := h
    rw [PT.getK_eq] at h'
    have := hr _ rfl
    rw [Pos.un_of] at this
    exact ⟨_, this, h'⟩
  | const v =>
    simp only [cOpd] at hc
    split at hc
    · rename_i hok
      cases hc
      exact ⟨v, okC_VR hok, h⟩
    · cases hc
  | func f => cases hc; exact ⟨_, .func _ _ _ _ _ _ (.func f) .nil .nil, h⟩
  | global g => cases hc

theorem args_sound : ∀ {xs : List Operand} {ys : List Opd} {k : List Value → Bool}, xs.mapM cOpd = some ys → (∀ p, Opd.t p ∈ ys → VR φ (s.tm.get p) (a.tmps.getD p.un undef)) → argsK ys s.tm k = true → ∃ vs, LR φ vs (xs.map a.eval) ∧ k vs = true := by
  intro xs
  induction xs with
  | nil => intro ys k hm _ h; simp at hm; subst hm; exact ⟨[], .nil, h⟩
  | cons x xs ih =>
    intro ys k hm hr h
    rw [List.mapM_cons] at hm
    cases hx : cOpd x with
    | none => simp [hx] at hm
    | some y =>
      cases hxs : xs.mapM cOpd with
      | none => simp [hx, hxs] at hm
      | some ys' =>
        simp [hx, hxs] at hm
        subst hm
        obtain ⟨v, h1, h2⟩ := opd_sound (a := a) (s := s) hx (fun p hp => hr p (by simp [hp])) (show opdK y s.tm (fun v => argsK ys' s.tm fun vs => k (v :: vs)) = true from h)
        obtain ⟨vs, h3, h4⟩ := ih hxs (fun p hp => hr p (by simp [hp])) h2
        exact ⟨v :: vs, .cons _ _ _ _ h1 h3, h4⟩


theorem eqBB_iff (x y : Bool) : eqBB x y = (x == y) := by cases x <;> cases y <;> rfl

theorem guard_sound {g : Nat} {want : Bool} {t : Tmp} {yes no : Bool} (hg : o.guard = some (g, want)) (ht : (ops[g]?).bind (·.dst) = some t) (hr : VR φ (s.tm.get (Pos.of t)) (a.tmps.getD t undef)) (h : guardK (some (Pos.of t, want)) s.tm yes no = true) :
    (Region.wanted o (yielded ops a.tmps) = true ∧ yes = true) ∨ (Region.wanted o (yielded ops a.tmps) = false ∧ no = true) := by
  have h' : PT.getK (Pos.of t) s.tm (guard1 want yes no) = true := h
  rw [PT.getK_eq] at h'
  have hy : yielded ops a.tmps g = (match a.tmps.getD t undef with | .bool c => some c | _ => none) := by
    unfold yielded
    rw [ht]
    simp only [Option.bind_some, Array.getD_eq_getD_getElem?]
    cases hh : a.tmps[t]? with
    | none => rfl
    | some u => cases u <;> rfl
  unfold Region.wanted
  rw [hg]
  simp only [hy]
  generalize a.tmps.getD t undef = u at hr
  generalize s.tm.get (Pos.of t) = u0 at hr h'
  cases hr with
  | bool c =>
    have h2 : (bif eqBB c want then yes else no) = true := h'
    rw [eqBB_iff] at h2
    cases hcw : (c == want) with
    | true => rw [hcw] at h2; left; exact ⟨by simpa using hcw, h2⟩
    | false => rw [hcw] at h2; right; exact ⟨by simpa using hcw, h2⟩
  | _ => right; exact ⟨by simp, h'⟩

theorem cOper_t {nt : Nat} {ao : AOp} (h : cOper P nt ops o = some ao) : ∃ act xs args, cOp P o = some (act, xs) ∧ xs.mapM cOpd = some args ∧ ao.act = act ∧ ao.args = args ∧
    (o.dst = none ∧ ao.dst = none ∨ ∃ d, o.dst = some d ∧ d < nt ∧ ao.dst = some (Pos.of d)) ∧
    (o.guard = none ∧ ao.guard = none ∨ ∃ g want t, o.guard = some (g, want) ∧ (ops[g]?).bind (·.dst) = some t ∧ ao.guard = some (Pos.of t, want)) := by
  unfold cOper at h
  split at h
  · cases h
  · rename_i act xs hc
    split at h
    · cases h
    · rename_i args ha
      simp only at h
      split at h
      · cases h
      · rename_i dst hd
        have hdst : o.dst = none ∧ dst = none ∨ ∃ d, o.dst = some d ∧ d < nt ∧ dst = some (Pos.of d) := by
          cases hod : o.dst with
          | none => rw [hod] at hd; simp at hd; exact .inl ⟨rfl, hd.symm⟩
          | some d =>
            rw [hod] at hd
            simp at hd
            exact .inr ⟨d, rfl, hd.1, hd.2.symm⟩
        split at h
        · rename_i hg
          cases h
          exact ⟨act, xs, args, hc, ha, rfl, rfl, hdst, .inl ⟨hg, rfl⟩⟩
        · rename_i g want hg
          split at h
          · rename_i t ht
            cases h
            exact ⟨act, xs, args, hc, ha, rfl, rfl, hdst, .inr ⟨g, want, t, hg, ht, rfl⟩⟩
          · cases h

theorem cOp_nonprim {act : Act1} {xs : List Operand} (hc : cOp P o = some (act, xs)) (hn : ∀ p, act ≠ .prim p) :
    (∃ c, o.op = .call c ∧ ((∃ g, act = .call g ∧ c.callee = .value (.func g) ∧ xs = c.args.toList) ∨ (∃ f, act = .dyn ∧ c.callee = .value f ∧ xs = f :: c.args.toList) ∨
      (act = .recover ∧ c.callee = .builtin .recover ∧ xs = []) ∨ (∃ x, act = .panic ∧ c.callee = .builtin .panic ∧ c.args.toList = [x] ∧ xs = [x]))) ∨
    (∃ x, o.op = .panic x ∧ act = .panic ∧ xs = [x]) ∨ (∃ c f, o.op = .defer c ∧ act = .defer ∧ c.callee = .value f ∧ xs = f :: c.args.toList) := by
  cases hop : o.op <;> simp only [cOp, hop] at hc
  case call c =>
    refine .inl ⟨c, rfl, ?_⟩
    cases hcal : c.callee with
    | value f =>
      rw [hcal] at hc
      cases f with
      | func g' =>
        simp only at hc
        split at hc
        · split at hc
          · cases hc; exact .inl ⟨g', rfl, rfl, rfl⟩
          · cases hc
        · cases hc
      | _ => cases hc; exact .inr (.inl ⟨_, rfl, rfl, rfl⟩)
    | invoke r m => rw [hcal] at hc; cases hc
    | builtin bb =>
      rw [hcal] at hc
      cases bb <;> simp only at hc <;> (repeat' split at hc) <;> first
        | (cases hc; done)
        | (cases hc; exact absurd rfl (hn _))
        | (cases hc; rename_i hx; exact .inr (.inr (.inl ⟨rfl, rfl, rfl⟩)))
        | (cases hc; rename_i hx; exact .inr (.inr (.inr ⟨_, rfl, rfl, hx, rfl⟩)))
  case panic x => cases hc; exact .inr (.inl ⟨x, rfl, rfl, rfl⟩)
  case defer c =>
    split at hc
    · rename_i f hcal
      cases hc
      exact .inr (.inr ⟨c, f, rfl, rfl, hcal, rfl⟩)
    · cases hc
  all_goals ((repeat' split at hc) <;> first | (cases hc; done) | (cases hc; exact absurd rfl (hn _)))

/-- One operation, its guard and all. -/
theorem op_sound {ao : AOp} {fail : KS} {k : St → Bool} {rec : Task → Bool} {nt : Nat} (hrec : ∀ t, rec t = true → TaskOk P w0 t) (hc : cOper P nt ops o = some ao) (ho : ops[i]? = some o) (hq : SQ P w0 φ s b cs0 cs a w) (he : EnvR φ e b)
    (hr : ∀ p ∈ ao.reads, VR φ (s.tm.get p) (a.tmps.getD p.un undef)) (h : opK rec ao e s fail k = true) : ActOk P w0 φ s b cs0 cs a w ops i o rest todo ao.dst fail k := by
  obtain ⟨act, xs, args, h1, h2, rfl, rfl, h4, h5⟩ := cOper_t hc
  have hargs : ∀ p, Opd.t p ∈ ao.args → VR φ (s.tm.get p) (a.tmps.getD p.un undef) := fun p hp => hr p (by
    unfold AOp.reads
    exact List.mem_append_left _ (List.mem_filterMap.2 ⟨.t p, hp, rfl⟩))
  have key : (Region.wanted o (yielded ops a.tmps) = true ∧ argsK ao.args s.tm (actK rec ao.act ao.dst e s fail k) = true) ∨ (Region.wanted o (yielded ops a.tmps) = false ∧ putD ao.dst s undef s.h k = true) := by
    have h' : guardK ao.guard s.tm (argsK ao.args s.tm (actK rec ao.act ao.dst e s fail k)) (putD ao.dst s undef s.h k) = true := by cases ao; exact h
    rcases h5 with ⟨g1, g2⟩ | ⟨g, want, t, g1, g2, g3⟩
    · rw [g2] at h'
      exact .inl ⟨by simp [Region.wanted, g1], h'⟩
    · rw [g3] at h'
      refine guard_sound (φ := φ) g1 g2 ?_ h'
      have := hr (Pos.of t) (by unfold AOp.reads; rw [g3]; simp)
      rw [Pos.un_of] at this
      exact this
  rcases key with ⟨hw, hk⟩ | ⟨hw, hk⟩
  · obtain ⟨vs, hv, hk⟩ := args_sound h2 hargs hk
    by_cases hp : ∃ p, ao.act = .prim p
    · obtain ⟨p, hp⟩ := hp
      rw [hp] at h1 hk
      exact act_prim (rec := rec) (e := e) ho hw h1 hq hv hk
    · have hn : ∀ p, ao.act ≠ .prim p := fun p hp' => hp ⟨p, hp'⟩
      rcases cOp_nonprim h1 hn with ⟨c, hop, ⟨g, ha, hcal, rfl⟩ | ⟨f, ha, hcal, rfl⟩ | ⟨ha, hcal, rfl⟩ | ⟨x, ha, hcal, hx, rfl⟩⟩ | ⟨x, hop, ha, rfl⟩ | ⟨c, f, hop, ha, hcal, rfl⟩
      · rw [ha] at hk; exact act_call (e := e) hrec ho hw hop hcal hq hv hk
      · rw [ha] at hk; exact act_dyn (e := e) hrec ho hw hop hcal hq hv hk
      · rw [ha] at hk; exact act_recover ho hw hop hcal hq he hk
      · rw [ha] at hk; exact act_panic ho hw (.inr ⟨c, hop, hcal, hx⟩) hq hv hk
      · rw [ha] at hk; exact act_panic ho hw (.inl hop) hq hv hk
      · rw [ha] at hk; exact act_defer ho hw hop hcal hq he hv hk
  · refine .inl ⟨undef, undef, s, φ, w, cs, a.defers, hk, rfl, Ext.refl _ _, Nat.le_refl _, VR.undef φ, ⟨hq.df, hq.rc, hq.heap⟩, .one ?_⟩
    have := stepR_op_skip (P := P) (b := b) (a := a) (k := todo) (cs := cs) (w := w) (ops := ops) (i := i) (rest := rest) (by simp [ho, hw])
    rw [ho] at this
    exact this
end
end Go.Ve
/- VEval, part 16: a region in its own order. No condition. -/
namespace Go.Ve
open Go.RowKit
section
variable {P : Program} {w0 w : World} {φ : Phi} {e : Env} {s : St} {b : Frame} {cs0 cs : List Frame} {a : Act} {ops : Array Oper} {i : Nat} {o : Oper} {rest : List Nat} {todo : List Item}

theorem putD_t {dst : Option Pos} {v : Value} {k : St → Bool} (h : putD dst s v s.h k = true) : (dst = none ∧ k s = true) ∨ ∃ p, dst = some p ∧ k ⟨s.tm.set p v, s.df, s.rc, s.h⟩ = true := by
  cases dst with
  | none => exact .inl ⟨rfl, by cases s; exact h⟩
  | some p =>
    refine .inr ⟨p, rfl, ?_⟩
    have h' : PT.setK p s.tm v (fun tm' => k ⟨tm', s.df, s.rc, s.h⟩) = true := by cases s; exact h
    rw [PT.setK_eq] at h'
    exact h'

theorem Act.put_defers' (a : Act) (d : Option Tmp) (v : Value) : (a.put d v).defers = a.defers := by cases d <;> rfl
theorem Act.put_tmps_some (a : Act) (d : Tmp) (v : Value) : (a.put (some d) v).tmps = a.tmps.setIfInBounds d v := rfl
theorem Act.put_none (a : Act) (v : Value) : a.put none v = a := rfl

theorem SQ.defers {a a' : Act} (hq : SQ P w0 φ s b cs0 cs a w) (h : a'.defers = a.defers) : SQ P w0 φ s b cs0 cs a' w := ⟨h ▸ hq.df, hq.rc, hq.heap⟩

inductive OpsR (P : Program) (nt : Nat) (ops : Array Oper) : List Nat → List AOp → Prop where
  | nil : OpsR P nt ops [] []
  | cons (i : Nat) (o : Oper) (ao : AOp) (is : List Nat) (l : List AOp) (ho : ops[i]? = some o) (hc : cOper P nt ops o = some ao) (hl : OpsR P nt ops is l) : OpsR P nt ops (i :: is) (ao :: l)

theorem opsR_of {nt : Nat} : ∀ (suf pre : List Oper) (l : List AOp), suf.mapM (cOper P nt ops) = some l → ops.toList = pre ++ suf → OpsR P nt ops (List.range' pre.length suf.length) l := by
  intro suf
  induction suf with
  | nil => intro pre l h _; simp at h; subst h; exact .nil
  | cons o suf ih =>
    intro pre l h hp
    rw [List.mapM_cons] at h
    cases ho : cOper P nt ops o with
    | none => simp [ho] at h
    | some ao =>
      cases hs : suf.mapM (cOper P nt ops) with
      | none => simp [ho, hs] at h
      | some l' =>
        simp [ho, hs] at h
        subst h
        rw [List.length_cons, List.range'_succ]
        refine .cons _ o _ _ _ ?_ ho ?_
        · rw [← Array.getElem?_toList, hp]; simp
        · have := ih (pre ++ [o]) l' hs (by simp [hp])
          simpa using this

theorem opsR_all {nt : Nat} {l : List AOp} (h : cOpers P nt ops = some l) : OpsR P nt ops (List.range ops.size) l := by
  have := opsR_of ops.toList [] l h rfl
  simpa [List.range_eq_range'] using this

/-- After an operation: the slots. -/
theorem tr_put {nt : Nat} {ao : AOp} (hc : cOper P nt ops o = some ao) {a : Act} {tm : PT} (ht : TR φ tm nt a.tmps) {v v' : Value} (hv : VR φ v v') :
    (ao.dst = none → TR φ tm nt (a.put o.dst v').tmps) ∧ (∀ p, ao.dst = some p → TR φ (tm.set p v) nt (a.put o.dst v').tmps) := by
  obtain ⟨act, xs, args, h1, h2, h3, h3', h4, h5⟩ := cOper_t hc
  rcases h4 with ⟨h6, h7⟩ | ⟨d, h6, hd, h7⟩
  · rw [h6, h7]
    refine ⟨fun _ => ht, fun p hp => ?_⟩
    cases hp
  · rw [h6, h7]
    refine ⟨fun hn => (by cases hn), fun p hp => ?_⟩
    cases hp
    have := ht.set (Pos.of d) (by rw [Pos.un_of]; exact hd) hv
    rw [Pos.un_of] at this
    exact this

theorem region_sound {rec : Task → Bool} (hrec : ∀ t, rec t = true → TaskOk P w0 t) {k : KS} : ∀ {is : List Nat} {l : List AOp}, OpsR P e.nt ops is l → ∀ {φ : Phi} {s : St} {cs : List Frame} {a : Act} {w : World}, SR P w0 φ e s b cs0 cs a w → EnvR φ e b → opsK rec l e s k = true →
    Goes P w0 φ s.h.nx e b cs0 (lone (b.atR a (.inRegion ops is :: todo)) cs w) todo k := by
  intro is l hR
  induction hR with
  | nil =>
    intro φ s cs a w hs he h
    exact ⟨.normal, s, φ, cs, a, w, h, Ext.refl _ _, Nat.le_refl _, hs, .one stepR_region_end⟩
  | cons i o ao is l ho hc hl ih =>
    intro φ s cs a w hs he h
    have h' : opK rec ao e s k (fun s => opsK rec l e s k) = true := h
    rcases op_sound (rest := is) (todo := todo) hrec hc ho hs.toSQ he (fun p _ => hs.tm.2 p) h' with ⟨v, v', s1, φ', w', cs', ds', h1, h2, h3, h4, h5, h6, h7⟩ | ⟨v, v', s1, φ', w', h1, h3, h4, h5, h6, h7⟩
    · have htm : TR φ' s1.tm e.nt ({ a with defers := ds' } : Act).tmps := by rw [h2]; exact hs.tm.ext h3
      obtain ⟨t1, t2⟩ := tr_put hc htm h5
      rcases putD_t h1 with ⟨hd, hk⟩ | ⟨p, hd, hk⟩
      · exact (ih (s := s1) ⟨h6.defers (Act.put_defers' _ _ _), t1 hd⟩ (he.ext h3) hk).of_steps h3 h4 h7
      · exact (ih (s := ⟨s1.tm.set p v, s1.df, s1.rc, s1.h⟩) ⟨SQ.mk (by rw [Act.put_defers']; exact h6.df) h6.rc h6.heap, t2 p hd⟩ (he.ext h3) hk).of_steps h3 h4 h7
    · exact ⟨.pan v, s1, φ', cs, a, w', h1, h3, h4, h6, ⟨_, v', h5, h7⟩⟩
end
end Go.Ve
/- VEval, part 17: code. What a region that draws comes to is a premise here (Ve19 pays it). No condition otherwise. -/
namespace Go.Ve
open Go.RowKit
section
variable {P : Program} {w0 w : World} {φ : Phi} {h : AH}

theorem Ext.mono {N M : Nat} {φ φ' : Phi} (h : Ext N φ φ') (hM : M ≤ N) : Ext M φ φ' := ⟨h.old, fun f hf => h.out f (Nat.lt_of_lt_of_le hf hM)⟩

theorem HR.new (H : HR P w0 φ h w) {o : AO} {o' : Obj} {d n : Nat} {ob' : NT AO} (hs : h.ob.IsSet h.nx (some o) ob') (ho : OR P φ d n o o') :
    HR P w0 (φ.put h.nx (.live w.heap.size d n)) ⟨h.nx + 1, ob'⟩ (w.alloc o') ∧ Ext h.nx φ (φ.put h.nx (.live w.heap.size d n)) :=
  H.newAt (f := h.nx) (h' := ⟨h.nx + 1, ob'⟩) (H.fresh _ (Nat.le_refl _)) hs.1 (fun g hg _ => hs.2 g hg) (fun g hg => H.fresh g (by have : h.nx + 1 ≤ g := hg; omega)) (fun g hg => by have h2 : h.nx + 1 ≤ g := hg; show ob'.get g = none; rw [hs.2 g (by omega)]; exact H.top g (by omega)) (Nat.lt_succ_self _) h.nx (Nat.le_refl _) ho

theorem HR.loop (H : HR P w0 φ h w) {f : Nat} {l : ALoop} (hf : φ f ≠ none) (ho : h.ob.get f = some (.loop l)) : ∃ b d n l', φ f = some (.live b d n) ∧ w.heap[b]? = some (.loop l') ∧ LoopR P φ l l' ∧ w0.heap.size ≤ b := by
  obtain ⟨b, d, n, o', h1, h2, h3, h4⟩ := H.live hf ho
  cases h3 with
  | loop _ _ _ l' hl => exact ⟨b, d, n, l', h1, h2, hl, h4 rfl⟩

theorem run_enterLoop_inner {l : Nat} {r : Loop} (hl : w.heap[l]? = some (.loop r)) (fn : FuncId) (tmps : Array Value) (ps : Array Tmp) (assign body : Code) :
    (Instr.enterLoop fn tmps ps assign body (some l)).run P w = .ok (w.heap.size, []) (w.alloc (.loop { state := .ready, pending := none, fn, tmps, params := ps, assign, body, defers := r.defers })) := by
  unfold Instr.enterLoop
  simp only [Sem.run_bind, run_getLoop hl, run_newObj_alloc, Result.andThen, Sem.run_pure]

variable {e : Env} {s : St} {b : Frame} {cs0 cs : List Frame} {a : Act} {todo : List Item} {k : KS}

theorem Goes.bind {N : Nat} {m : Machine} {todo' : List Item} {k' : KS} (g : Goes P w0 φ N e b cs0 m todo' k')
    (h : ∀ x s1 φ1 cs1 a1 w1, k' x s1 = true → Ext N φ φ1 → N ≤ s1.h.nx → SX P w0 φ1 e x s1 b cs0 cs1 a1 w1 → Arr P φ1 m b todo' x cs1 a1 w1 → Goes P w0 φ N e b cs0 m todo k) : Goes P w0 φ N e b cs0 m todo k := by
  obtain ⟨x, s1, φ1, cs1, a1, w1, h1, h2, h3, h4, h5⟩ := g
  exact h x s1 φ1 cs1 a1 w1 h1 h2 h3 h4 h5

theorem step_scope {c : Code} : step P (lone (b.atR a (.code (.scope c) :: todo)) cs w) = .next (lone (b.atR a (.code c :: .inScope c :: todo)) cs w) :=
  step_lone_go (by simp [stepG, stepG.exec, Frame.atR])
theorem step_inScope {c : Code} : step P (lone (b.atR a (.inScope c :: todo)) cs w) = .next (lone (b.atR a todo) cs w) :=
  step_lone_go (by simp [stepG, stepG.exec, Frame.atR])

/-- what of a region that draws is used here -/
def DrawOk (P : Program) (w0 : World) : Prop := ∀ (rec : Task → Bool), (∀ t, rec t = true → TaskOk P w0 t) → ∀ (e : Env) (b : Frame) (cs0 : List Frame) (todo : List Item) (k : KS) (id : Nat) (ops : Array Oper) (l : List AOp) (dl : List DOp),
  cOpers P e.nt ops = some l → drawOf ops l.toArray = some dl → ∀ (φ : Phi) (s : St) (cs : List Frame) (a : Act) (w : World), SR P w0 φ e s b cs0 cs a w → EnvR φ e b → drawK rec dl e s k = true →
    Goes P w0 φ s.h.nx e b cs0 (lone (b.atR a (.code (.region id ops true) :: todo)) cs w) todo k

theorem SX.sr {x : AX} (h : SX P w0 φ e x s b cs0 cs a w) (hx : ∀ v, x ≠ .pan v) : SR P w0 φ e s b cs0 cs a w := by
  cases x with
  | pan v => exact absurd rfl (hx v)
  | _ => exact h

/-- code of two parts: the first, and then what its normal end leads to -/
theorem then_sound {rec : Task → Bool} (hrec : ∀ t, rec t = true → TaskOk P w0 t) {ac : ACode} {c2 : Code} {it : Item} {m : Machine} {N : Nat} (hc : cCode P e.nt c2 = some ac) (hit : Starts c2 it) (hx : ∀ id, exitTo id (it :: todo) = exitTo id todo) (he : EnvR φ e b)
    (g : Goes P w0 φ N e b cs0 m (it :: todo) (thenK rec ac e k)) : Goes P w0 φ N e b cs0 m todo k := by
  refine g.bind fun x s1 φ1 cs1 a1 w1 h1 h2 h3 h4 h5 => ?_
  cases x with
  | normal =>
    have hC : TaskOk P w0 (.code ac e s1 k) := hrec _ h1
    have := hC c2 hc φ1 b cs0 cs1 a1 w1 h4 (he.ext h2) it hit todo
    exact this.of_steps h2 h3 h5
  | exit id =>
    obtain ⟨k1, h6, h7⟩ := h5
    exact ⟨.exit id, s1, φ1, cs1, a1, w1, h1, h2, h3, h4, k1, by rw [h6, hx], h7⟩
  | ret => exact ⟨.ret, s1, φ1, cs1, a1, w1, h1, h2, h3, h4, h5⟩
  | pan v => exact ⟨.pan v, s1, φ1, cs1, a1, w1, h1, h2, h3, h4, h5⟩

theorem block_sound {id : Nat} {m : Machine} {N : Nat} (g : Goes P w0 φ N e b cs0 m (.inBlock id :: todo) (blockK id k)) : Goes P w0 φ N e b cs0 m todo k := by
  refine g.bind fun x s1 φ1 cs1 a1 w1 h1 h2 h3 h4 h5 => ?_
  cases x with
  | normal => exact ⟨.normal, s1, φ1, cs1, a1, w1, h1, h2, h3, h4, Steps.trans h5 (.one stepR_inBlock)⟩
  | exit j =>
    obtain ⟨k1, h6, h7⟩ := h5
    have h1' : (bif Nat.beq j id then k .normal s1 else k (.exit j) s1) = true := h1
    cases hj : Nat.beq j id with
    | true =>
      rw [hj] at h1'
      have : j = id := Nat.eq_of_beq_eq_true hj
      subst this
      have h6' : exitTo j k1 = some todo := by rw [h6]; simp [exitTo]
      exact ⟨.normal, s1, φ1, cs1, a1, w1, h1', h2, h3, h4, Steps.trans h7 (.one (stepR_exit h6'))⟩
    | false =>
      rw [hj] at h1'
      have hne : ¬ (id = j) := fun e' => by subst e'; rw [Nat.beq_refl] at hj; cases hj
      refine ⟨.exit j, s1, φ1, cs1, a1, w1, h1', h2, h3, h4, k1, ?_, h7⟩
      rw [h6]; simp [exitTo, hne]
  | ret => exact ⟨.ret, s1, φ1, cs1, a1, w1, h1, h2, h3, h4, h5⟩
  | pan v => exact ⟨.pan v, s1, φ1, cs1, a1, w1, h1, h2, h3, h4, h5⟩

/-! ### A range over a function -/
theorem jump_sound {l : Nat} {df : List ADef} {pj : Option Code} {h1 : AH} {N : Nat} {m : Machine} (hj : jumpK s df k pj h1 = true) (hs : SR P w0 φ e ⟨s.tm, df, s.rc, h1⟩ b cs0 cs a w) (hN : N ≤ h1.nx)
    (hst : Steps P m (lone (b.atR a ((pj.map Item.code).toList ++ todo)) cs w)) : Goes P w0 φ N e b cs0 m todo k := by
  unfold jumpK at hj
  split at hj
  · exact ⟨.normal, _, φ, cs, a, w, hj, Ext.refl _ _, hN, hs, hst⟩
  · exact ⟨.ret, _, φ, cs, a, w, hj, Ext.refl _ _, hN, hs, todo, hst⟩
  · exact ⟨.exit _, _, φ, cs, a, w, hj, Ext.refl _ _, hN, hs, todo, rfl, hst⟩
  · cases hj

theorem LoopR.upd {l : ALoop} {l' : Loop} (r : LoopR P φ l l') (st : LoopState) (j : Option Code) : LoopR P φ (l.upd st j) { l' with state := st, pending := j } := by
  cases l
  exact ⟨rfl, rfl, r.fn, r.tm, r.params, r.small, r.assign, r.body, r.defs, r.defs'⟩

theorem HR.putLoop (H : HR P w0 φ h w) {f b d n : Nat} {l' : Loop} {ob' : NT AO} (hl : φ f = some (.live b d n)) (hw : w.heap[b]? = some (.loop l')) (hb : w0.heap.size ≤ b) {l2 : ALoop} {l2' : Loop} (hs : h.ob.IsSet f (some (.loop l2)) ob') (hr : LoopR P φ l2 l2') :
    HR P w0 φ ⟨h.nx, ob'⟩ (w.putObj b (.loop l2')) := by
  have hlt : b < w.heap.size := (Array.getElem?_eq_some_iff.1 hw).1
  exact H.upd (h' := ⟨h.nx, ob'⟩) hl hs rfl (.loop d n _ _ hr) hb (World.putObj_heap_same hlt) (fun k hk => World.putObj_heap_other hk) World.putObj_size rfl rfl rfl

/-- the statement, from where its record has been laid -/
theorem range_go {rec : Task → Bool} (hrec : ∀ t, rec t = true → TaskOk P w0 t) {g : Operand} {ps : Array Tmp} {assign body : Code} {x y : ACode} {gf : FuncId} {first capt first' capt' : Array Value} {h1 : AH} {dl : Nat} {df : List ADef} {mark : List Deferred} {w1 : World} {N dl' : Nat}
    (hps : ∀ t ∈ ps.toList, t < e.nt) (hx : cCode P e.nt assign = some x) (hy : cCode P e.nt body = some y) (hg : a.eval g = .func (.func gf) first' capt') (hf1 : LR φ first.toList first'.toList) (hf2 : LR φ capt.toList capt'.toList)
    (hb : b.fn = e.fn) (htm : TR φ s.tm e.nt a.tmps) (hdf : DL φ df (mark ++ a.defers)) (hrc : RcR φ s.rc b cs0 cs) (H : HR P w0 φ h1 w1) (hdl : φ dl ≠ none) (hdl' : ∀ b d n, φ dl = some (.live b d n) → dl' = b) (hN : N ≤ h1.nx)
    (hent : (Instr.enterLoop b.fn a.tmps ps assign body b.roundOf).run P w = .ok (w1.heap.size, mark) (w1.alloc (.loop { state := .ready, pending := none, fn := b.fn, tmps := a.tmps, params := ps, assign, body, defers := dl' })))
    (hk : rangeGo rec e s k (ps.toList.map Pos.of) x y gf first.toList capt.toList h1 dl df = true) :
    Goes P w0 φ N e b cs0 (lone (b.atR a (.code (.rangeFunc g ps assign body) :: todo)) cs w) todo k := by
  obtain ⟨ob', hset, hk1⟩ := newK_t hk
  have hLR : LoopR P φ ⟨.ready, none, e.fn, s.tm, ps.toList.map Pos.of, x, y, dl, e.nt⟩ { state := .ready, pending := none, fn := b.fn, tmps := a.tmps, params := ps, assign, body, defers := dl' } :=
    ⟨rfl, rfl, hb, htm, rfl, hps, hx, hy, hdl, hdl'⟩
  obtain ⟨H1, hE1⟩ := H.new hset (.loop 0 0 _ _ hLR)
  have hk2 := appL_t _ _ hk1
  have hC : CallOk P w0 gf (first.toList ++ (.func (.yield h1.nx) ⟨[]⟩ ⟨[]⟩ :: capt.toList)) ⟨h1.nx + 1, ob'⟩ (rangeBack s df k h1.nx) := hrec _ hk2
  have hl0 : (φ.put h1.nx (.live w1.heap.size 0 0)) h1.nx = some (.live w1.heap.size 0 0) := Phi.put_same _ _ _
  have hargs : LR (φ.put h1.nx (.live w1.heap.size 0 0)) (first.toList ++ (.func (.yield h1.nx) ⟨[]⟩ ⟨[]⟩ :: capt.toList)) ((first' ++ #[Value.func (.yield w1.heap.size) #[] #[]]) ++ capt').toList := by
    have := LR.append (LR.cons _ _ _ _ (VR.func (.yield h1.nx) (.yield w1.heap.size) ⟨[]⟩ #[] ⟨[]⟩ #[] (.yield _ _ (by rw [hl0]; simp) (fun b d n hh => by rw [hl0] at hh; cases hh; rfl)) .nil .nil) (LR.ext hE1 hf2)) (LR.ext hE1 hf1)
    simpa using this
  have hstep := stepR_rangeFunc (P := P) (b := b) (a := a) (k := todo) (cs := cs) (w := w) (g := g) (ps := ps) (assign := assign) (body := body) (d := { target := .fn (.func gf) capt', args := first' ++ #[.func (.yield w1.heap.size) #[] #[]] })
    (f := gf) (args := (first' ++ #[.func (.yield w1.heap.size) #[] #[]]) ++ capt') hent
    (by
      have hev : a.eval (.const (.func (.yield w1.heap.size) #[] #[])) = .func (.yield w1.heap.size) #[] #[] := rfl
      simp [resolve, rangeCall, hg, Deferred.ofValue, hev]; rfl) (run_invoke_fn hC.1 _ _)
  obtain ⟨E, w3, fr, ⟨r, h3, φ3, hk3, hE3, hN3, H3, hrok⟩, hcomes, hfn, hleave⟩ := hC.2 _ _ _ hargs H1 (b.atR { a with defers := mark ++ a.defers } (.inRangeFunc w1.heap.size :: todo) :: cs)
  have hE : Ext N φ φ3 := (hE1.mono hN).trans hE3 (Nat.le_trans hN (Nat.le_succ _))
  have hNN : N ≤ h3.nx := by have : h1.nx + 1 ≤ h3.nx := hN3; omega
  have hdf3 : DL φ3 df ({ a with defers := mark ++ a.defers } : Act).defers := hdf.ext hE
  cases r with
  | pan v =>
    obtain ⟨v', rfl, hv'⟩ := hrok
    refine ⟨.pan v, ⟨s.tm, df, s.rc, h3⟩, φ3, cs, { a with defers := mark ++ a.defers }, w3, hk3, hE, hNN, ⟨hdf3, hrc.ext hE, H3⟩, ⟨.inRangeFunc w1.heap.size :: todo, v', hv', .head hstep (Steps.trans hcomes (.one ?_))⟩⟩
    have := step_leave_panicked (c := b.atR { a with defers := mark ++ a.defers } (.inRangeFunc w1.heap.size :: todo)) (cs := cs) hleave
    rw [Frame.raise_atR] at this
    exact this
  | ret v =>
    obtain ⟨v', rfl, hv'⟩ := hrok
    have hback := step_leave_returned (c := b.atR { a with defers := mark ++ a.defers } (.inRangeFunc w1.heap.size :: todo)) (cs := cs) hleave
    rw [finish_atR_inRangeFunc] at hback
    obtain ⟨lp, hl1, hk4⟩ := loopK_t hk3
    obtain ⟨hnb, hk5⟩ := iff_t hk4
    obtain ⟨ob2, hset2, hk6⟩ := putK_t hk5
    have hkeep : φ3 h1.nx ≠ none := hE3.keep (by rw [hl0]; simp)
    obtain ⟨b2, d2, n2, lp', hl2, hl3, hl4, hl5⟩ := H3.loop hkeep hl1
    have hb2 : b2 = w1.heap.size := by
      have := hE3.live (by rw [hl0]; simp) hl2
      rw [hl0] at this; cases this; rfl
    subst hb2
    have hbusy : lp'.state ≠ .busy := by
      rw [hl4.state]
      intro hh
      rw [hh] at hnb; cases hnb
    have hend := stepR_endRangeFunc (P := P) (b := b) (a := { a with defers := mark ++ a.defers }) (k := todo) (cs := cs) (run_endLoop hl3 hbusy)
    have hLu := hl4.upd .exhausted lp.pend
    rw [show ({ lp' with state := .exhausted, pending := lp.pend } : Loop) = { lp' with state := .exhausted } from by rw [← hl4.pend]] at hLu
    have H4 := H3.putLoop hl2 hl3 hl5 hset2 hLu
    refine (jump_sound (l := 0) (φ := φ3) (a := { a with defers := mark ++ a.defers }) (N := h3.nx) hk6 ⟨⟨hdf3, hrc.ext hE, H4⟩, htm.ext hE⟩ (Nat.le_refl _) (m := lone (b.atR { a with defers := mark ++ a.defers } ((lp'.pending.map Item.code).toList ++ todo)) cs _) ?_).of_steps hE hNN (.head hstep (Steps.trans hcomes (.head hback (.one hend))))
    rw [hl4.pend]
    exact Steps.refl _ _
theorem range_sound {rec : Task → Bool} (hrec : ∀ t, rec t = true → TaskOk P w0 t) {g : Operand} {g' : Opd} {ps : Array Tmp} {assign body : Code} {x y : ACode}
    (hg : cOpd g = some g') (hps : ∀ t ∈ ps.toList, t < e.nt) (hx : cCode P e.nt assign = some x) (hy : cCode P e.nt body = some y) (hs : SR P w0 φ e s b cs0 cs a w) (he : EnvR φ e b)
    (h : stRange rec e s k g' (ps.toList.map Pos.of) x y = true) : Goes P w0 φ s.h.nx e b cs0 (lone (b.atR a (.code (.rangeFunc g ps assign body) :: todo)) cs w) todo k := by
  obtain ⟨v, hv, h1⟩ := opd_sound (a := a) (s := s) (φ := φ) hg (fun p _ => hs.tm.2 p) h
  rcases funcK_t h1 with ⟨gf, first, capt, rfl, h2⟩ | ⟨l, rfl, h2⟩
  · generalize hgv : a.eval g = gv at hv
    cases hv with
    | func _ fn' _ first' _ capt' hfn hf1 hf2 =>
      cases hfn
      obtain ⟨hb, hro⟩ := he
      cases hrn : e.rnd with
      | none =>
        rw [hrn] at h2 hro
        have hro' : b.roundOf = none := hro
        obtain ⟨ob', hset, h3⟩ := newK_t h2
        obtain ⟨H1, hE1⟩ := hs.heap.new hset (.defs 0 0 false)
        have hl0 : (φ.put s.h.nx (.live w.heap.size 0 0)) s.h.nx = some (.live w.heap.size 0 0) := Phi.put_same _ _ _
        refine (range_go (φ := φ.put s.h.nx (.live w.heap.size 0 0)) (N := s.h.nx + 1) (w := w) (w1 := w.alloc (.deferred (some []))) (mark := [{ target := .collected w.heap.size, args := #[] }]) (dl' := w.heap.size) hrec hps hx hy hgv (LR.ext hE1 hf1) (LR.ext hE1 hf2) hb (hs.tm.ext hE1) ?_ (hs.rc.ext hE1) H1 (by rw [hl0]; simp) (fun b d n hh => by rw [hl0] at hh; cases hh; rfl) (Nat.le_refl _) ?_ h3).of_steps hE1 (Nat.le_succ _) (Steps.refl _ _)
        · exact .cons _ _ _ _ ⟨by rw [hl0]; simp, w.heap.size, rfl, fun b d n hh => by rw [hl0] at hh; cases hh; rfl⟩ (hs.df.ext hE1)
        · rw [hro', run_enterLoop_outer, World.size_alloc]
      | some l =>
        rw [hrn] at h2 hro
        obtain ⟨hk, l', hl', hφ, hlive⟩ := hro
        obtain ⟨r, hr1, h3⟩ := loopK_t h2
        obtain ⟨bl, d, n, r', e1, e2, e3, e4⟩ := hs.heap.loop hφ hr1
        have : l' = bl := hlive _ _ _ e1
        subst this
        refine range_go (φ := φ) (w := w) (w1 := w) (mark := []) (dl' := r'.defers) hrec hps hx hy hgv hf1 hf2 hb hs.tm hs.df hs.rc hs.heap e3.defs (fun b d n hh => e3.defs' b d n hh) (Nat.le_refl _) ?_ h3
        rw [hl', run_enterLoop_inner e2]
  · cases h2

/-! ### Code -/
theorem code_sound (hdraw : DrawOk P w0) {rec : Task → Bool} (hrec : ∀ t, rec t = true → TaskOk P w0 t) : ∀ (c : Code) (ac : ACode) (e : Env) (s : St) (k : KS), cCode P e.nt c = some ac → stCode rec ac e s k = true →
    ∀ (φ : Phi) (b : Frame) (cs0 cs : List Frame) (a : Act) (w : World), SR P w0 φ e s b cs0 cs a w → EnvR φ e b → ∀ it, Starts c it → ∀ todo, Goes P w0 φ s.h.nx e b cs0 (lone (b.atR a (it :: todo)) cs w) todo k := by
  intro c
  induction c with
  | skip =>
    intro ac e s k hc h φ b cs0 cs a w hs he it hit todo
    rcases hit with rfl | ⟨c', hc', _⟩
    · cases hc; exact ⟨.normal, s, φ, cs, a, w, h, Ext.refl _ _, Nat.le_refl _, hs, .one stepR_skip⟩
    · cases hc'
  | label l =>
    intro ac e s k hc h φ b cs0 cs a w hs he it hit todo
    rcases hit with rfl | ⟨c', hc', _⟩
    · cases hc; exact ⟨.normal, s, φ, cs, a, w, h, Ext.refl _ _, Nat.le_refl _, hs, .one stepR_label⟩
    · cases hc'
  | region id ops draw =>
    intro ac e s k hc h φ b cs0 cs a w hs he it hit todo
    rcases hit with rfl | ⟨c', hc', _⟩
    · cases draw with
      | false =>
        simp only [cCode, Option.map_eq_some_iff] at hc
        obtain ⟨l, hl, rfl⟩ := hc
        exact (region_sound hrec (opsR_all hl) hs he h).of_steps (Ext.refl _ _) (Nat.le_refl _) (.one stepR_region)
      | true =>
        simp only [cCode] at hc
        split at hc
        · rename_i l hl
          simp only [Option.map_eq_some_iff] at hc
          obtain ⟨dl, hdl, rfl⟩ := hc
          exact hdraw rec hrec e b cs0 todo k id ops l dl hl hdl φ s cs a w hs he h
        · cases hc
    · cases hc'
  | seq c1 c2 ih1 ih2 =>
    intro ac e s k hc h φ b cs0 cs a w hs he it hit todo
    rcases hit with rfl | ⟨c', hc', _⟩
    · simp only [cCode] at hc
      split at hc
      · rename_i x y hx hy
        cases hc
        have hC : TaskOk P w0 (.code x e s (thenK rec y e k)) := hrec _ h
        have g := hC c1 hx φ b cs0 cs a w hs he _ (.inl rfl) (.code c2 :: todo)
        exact (then_sound hrec hy (.inl rfl) (fun _ => by simp [exitTo]) he g).of_steps (Ext.refl _ _) (Nat.le_refl _) (.one stepR_seq)
      · cases hc
    · cases hc'
  | cond c c1 c2 ih1 ih2 =>
    intro ac e s k hc h φ b cs0 cs a w hs he it hit todo
    rcases hit with rfl | ⟨c', hc', _⟩
    · simp only [cCode] at hc
      split at hc
      · rename_i c0 x y hc0 hx hy
        cases hc
        obtain ⟨v, hv, h1⟩ := opd_sound (a := a) (s := s) (φ := φ) hc0 (fun p _ => hs.tm.2 p) h
        obtain ⟨t, rfl, h2⟩ := boolK_t h1
        have hev := VR.bool_inv hv
        cases t with
        | true =>
          have hC : TaskOk P w0 (.code x e s k) := hrec _ h2
          exact (hC c1 hx φ b cs0 cs a w hs he _ (.inl rfl) todo).of_steps (Ext.refl _ _) (Nat.le_refl _) (.one (stepR_cond hev))
        | false =>
          have hC : TaskOk P w0 (.code y e s k) := hrec _ h2
          exact (hC c2 hy φ b cs0 cs a w hs he _ (.inl rfl) todo).of_steps (Ext.refl _ _) (Nat.le_refl _) (.one (stepR_cond hev))
      · cases hc
    · cases hc'
  | block id c1 ih1 =>
    intro ac e s k hc h φ b cs0 cs a w hs he it hit todo
    rcases hit with rfl | ⟨c', hc', _⟩
    · simp only [cCode, Option.map_eq_some_iff] at hc
      obtain ⟨x, hx, rfl⟩ := hc
      have hC : TaskOk P w0 (.code x e s (blockK id k)) := hrec _ h
      exact (block_sound (hC c1 hx φ b cs0 cs a w hs he _ (.inl rfl) (.inBlock id :: todo))).of_steps (Ext.refl _ _) (Nat.le_refl _) (.one stepR_block)
    · cases hc'
  | loop c1 ih1 =>
    intro ac e s k hc h φ b cs0 cs a w hs he it hit todo
    have hc0 := hc
    simp only [cCode, Option.map_eq_some_iff] at hc
    obtain ⟨x, hx, rfl⟩ := hc
    have hC : TaskOk P w0 (.code x e s (thenK rec (.loop x) e k)) := hrec _ h
    have g := then_sound (c2 := .loop c1) hrec hc0 (.inr ⟨c1, rfl, rfl⟩) (fun _ => by simp [exitTo]) he (hC c1 hx φ b cs0 cs a w hs he _ (.inl rfl) (.inLoop c1 :: todo))
    rcases hit with rfl | ⟨c', hc', rfl⟩
    · exact g.of_steps (Ext.refl _ _) (Nat.le_refl _) (.one stepR_loop)
    · cases hc'
      exact g.of_steps (Ext.refl _ _) (Nat.le_refl _) (.one stepR_inLoop)
  | scope c1 ih1 =>
    intro ac e s k hc h φ b cs0 cs a w hs he it hit todo
    rcases hit with rfl | ⟨c', hc', _⟩
    · have g := ih1 ac e s k (by simpa only [cCode] using hc) h φ b cs0 cs a w hs he _ (.inl rfl) (.inScope c1 :: todo)
      refine Goes.of_steps (Ext.refl _ _) (Nat.le_refl _) (.one step_scope) (g.bind fun x s1 φ1 cs1 a1 w1 h1 h2 h3 h4 h5 => ?_)
      cases x with
      | normal => exact ⟨.normal, s1, φ1, cs1, a1, w1, h1, h2, h3, h4, Steps.trans h5 (.one step_inScope)⟩
      | exit id => obtain ⟨k1, h6, h7⟩ := h5; exact ⟨.exit id, s1, φ1, cs1, a1, w1, h1, h2, h3, h4, k1, by rw [h6]; simp [exitTo], h7⟩
      | ret => exact ⟨.ret, s1, φ1, cs1, a1, w1, h1, h2, h3, h4, h5⟩
      | pan v => exact ⟨.pan v, s1, φ1, cs1, a1, w1, h1, h2, h3, h4, h5⟩
    · cases hc'
  | rangeFunc g ps c1 c2 ih1 ih2 =>
    intro ac e s k hc h φ b cs0 cs a w hs he it hit todo
    rcases hit with rfl | ⟨c', hc', _⟩
    · simp only [cCode] at hc
      split at hc
      · rename_i g' x y hg hx hy
        split at hc
        · rename_i hps
          cases hc
          exact range_sound hrec hg (fun t ht => by simpa using List.all_eq_true.1 hps t ht) hx hy hs he h
        · cases hc
      · cases hc
    · cases hc'
  | exit id =>
    intro ac e s k hc h φ b cs0 cs a w hs he it hit todo
    rcases hit with rfl | ⟨c', hc', _⟩
    · cases hc; exact ⟨.exit id, s, φ, cs, a, w, h, Ext.refl _ _, Nat.le_refl _, hs, todo, rfl, Steps.refl _ _⟩
    · cases hc'
  | ret =>
    intro ac e s k hc h φ b cs0 cs a w hs he it hit todo
    rcases hit with rfl | ⟨c', hc', _⟩
    · cases hc; exact ⟨.ret, s, φ, cs, a, w, h, Ext.refl _ _, Nat.le_refl _, hs, todo, Steps.refl _ _⟩
    · cases hc'
  | goto l => intro ac e s k hc; cases hc
  | refuse why => intro ac e s k hc; cases hc
end
end Go.Ve
/- VEval, part 18: calls, deferred calls, leaving, rounds. No condition. -/
namespace Go.Ve
open Go.RowKit
section
variable {P : Program} {w0 w : World} {φ : Phi} {h : AH}

theorem cFn_t {f : FuncId} {af : AFn} (h : cFn P f = some af) : ∃ fn c, P.funcs[f]? = some fn ∧ Can P f ∧ fn.body = some c ∧ fn.results.toList.mapM (cRes P) = some af.results ∧ cCode P fn.ntmps c = some af.code ∧ af.ntmps = fn.ntmps := by
  unfold cFn at h
  split at h
  · cases h
  · rename_i fn hf
    split at h
    · cases h
    · rename_i hn
      split at h
      · cases h
      · rename_i c hb
        split at h
        · rename_i rs ac hr hc
          cases h
          exact ⟨fn, c, hf, ⟨fn, hf, by simpa using hn, by simp [hb]⟩, hb, hr, hc, rfl⟩
        · cases h

theorem layArgs_t : ∀ (vs : List Value) {i : Nat} {t : PT} {k : PT → Bool}, layArgs i vs t k = true → ∃ t', k t' = true ∧ ∀ p : Pos, t'.get p = if i ≤ p.un ∧ p.un < i + vs.length then vs.getD (p.un - i) undef else t.get p := by
  intro vs
  induction vs with
  | nil => intro i t k h; exact ⟨t, h, fun p => by rw [if_neg (by simp)]⟩
  | cons v vs ih =>
    intro i t k h
    have h' : PT.setK (Pos.of i) t v (fun t => layArgs (i + 1) vs t k) = true := h
    rw [PT.setK_eq] at h'
    obtain ⟨t', h1, h2⟩ := ih h'
    refine ⟨t', h1, fun p => ?_⟩
    rw [h2, PT.get_set]
    by_cases h3 : p.un = i
    · have hp : p = Pos.of i := Pos.un_inj (by rw [Pos.un_of]; exact h3)
      rw [if_neg (by omega), if_pos hp, if_pos (by simp; omega)]
      simp [h3]
    · have hp : ¬ p = Pos.of i := fun e => h3 (by rw [e, Pos.un_of])
      by_cases h4 : i + 1 ≤ p.un ∧ p.un < i + 1 + vs.length
      · rw [if_pos h4, if_pos (by simp; omega)]
        have : p.un - i = (p.un - (i + 1)) + 1 := by omega
        rw [this]; simp
      · rw [if_neg h4, if_neg hp, if_neg (by simp; omega)]

theorem tr_args {args : List Value} {args' : Array Value} {t : PT} {n : Nat} (hl : LR φ args args'.toList) (ht : ∀ p : Pos, t.get p = if 0 ≤ p.un ∧ p.un < 0 + args.length then args.getD (p.un - 0) undef else PT.e.get p) :
    TR φ t n (args' ++ Array.replicate (n - args'.size) undef) := by
  have hlen : args.length = args'.size := by rw [hl.length]; simp
  refine ⟨by simp; omega, fun p => ?_⟩
  rw [ht p]
  by_cases h : p.un < args.length
  · rw [if_pos (by omega)]
    have h1 : args[p.un]? = some args[p.un] := by simp [h]
    obtain ⟨v', h2, h3⟩ := hl.get _ _ h1
    have h4 : (args' ++ Array.replicate (n - args'.size) undef).getD p.un undef = v' := by
      rw [Array.getD_eq_getD_getElem?, Array.getElem?_append_left (by omega)]
      rw [← Array.getElem?_toList, h2]; rfl
    rw [h4]
    have h5 : args.getD (p.un - 0) undef = args[p.un] := by simp [h]
    rw [h5]; exact h3
  · rw [if_neg (by omega), PT.get_e]
    have h4 : (args' ++ Array.replicate (n - args'.size) undef).getD p.un undef = undef := by
      rw [Array.getD_eq_getD_getElem?, Array.getElem?_append_right (by omega)]
      by_cases h6 : p.un - args'.size < n - args'.size
      · simp [Array.getElem?_replicate, h6]
      · rw [Array.getElem?_eq_none (by simp; omega)]; rfl
    rw [h4]; exact VR.undef φ

/-! ### Results -/
theorem cells_read {t : TypeId} {d : TypeDesc} {n : Nat} {x : Value} {a : Addr} (hu : P.underlying t = some d) (hd : isAggD d = true) (hz : szOf P t = some n) (H : HR P w0 φ h w) (hv : VR φ x (.pointer (some a))) {k : List Value → Bool}
    (e : ptrK x (fun b o => readAt h b o n k) = true) : ∃ l l', (loadVar t a).run P w = .ok (.agg l') w ∧ LR φ l l'.toList ∧ k l = true := by
  obtain ⟨i, hi, rfl⟩ := szOf_t hz
  obtain ⟨a0, hsub, e'⟩ := ptrK_t e; clear e; subst hsub; have e := e'; clear e'
  obtain ⟨a', ha, hs, hat⟩ := hv.ptr_inv
  cases ha
  obtain ⟨lo, hii, ty, rw, c, l, h1, h2, h3, h4, h5, h6⟩ := readAt_t e
  obtain ⟨l', hl, hrun⟩ := H.cells hs hat h1 h2 (by omega) h5
  refine ⟨l, l'.toArray, ?_, by simpa using hl, h6⟩
  rw [h4] at hrun
  simp [loadVar, run_isAgg' hu, hd, run_size' hi, hrun w rfl]

theorem cell_read {t : TypeId} {d : TypeDesc} {x : Value} {a : Addr} (hu : P.underlying t = some d) (hd : isAggD d = false) (H : HR P w0 φ h w) (hv : VR φ x (.pointer (some a))) {k : Value → Bool}
    (e : ptrK x (fun b o => read1 h b o k) = true) : ∃ v v', (loadVar t a).run P w = .ok v' w ∧ VR φ v v' ∧ k v = true := by
  obtain ⟨a0, hsub, e'⟩ := ptrK_t e; clear e; subst hsub; have e := e'; clear e'
  obtain ⟨a', ha, hs, hat⟩ := hv.ptr_inv
  cases ha
  obtain ⟨lo, hi, ty, rw, c, v, h1, h2, h3, h4, h5⟩ := read1_t e
  obtain ⟨v', hc, hvr⟩ := H.cell hs hat h1 (j := 0) (by omega) (by omega) (by simpa using h4)
  refine ⟨v, v', ?_, hvr, h5⟩
  have : a.add 0 = a := rfl
  rw [this] at hc
  simp [loadVar, run_isAgg' hu, hd, hc]

/-- what a result variable is read by -/
def readRes (tmps : Array Value) : ResultVar → Sem Value
  | .tmp t => pure (tmps.getD t undef)
  | .cell a t => do loadVar t (← asAddr (tmps.getD a undef))

theorem results_eq (fn : Func) (tmps : Array Value) : results fn tmps = (do let vs ← fn.results.mapM (readRes tmps); pure (if h : vs.size = 1 then vs[0] else .tuple vs)) := by
  unfold results
  congr 1

theorem res_list {tmps : Array Value} {tm : PT} {n : Nat} (ht : TR φ tm n tmps) (H : HR P w0 φ h w) : ∀ {rs : List ResultVar} {as : List ARes} {k : List Value → Bool}, rs.mapM (cRes P) = some as → resK as tm h k = true →
    ∃ vs vs', (rs.mapM (readRes tmps)).run P w = .ok vs' w ∧ LR φ vs vs' ∧ k vs = true := by
  intro rs
  induction rs with
  | nil => intro as k hm h; simp at hm; subst hm; exact ⟨[], [], by simp [Sem.run], .nil, h⟩
  | cons r rs ih =>
    intro as k hm hk
    rw [List.mapM_cons] at hm
    cases hr : cRes P r with
    | none => simp [hr] at hm
    | some a =>
      cases hrs : rs.mapM (cRes P) with
      | none => simp [hr, hrs] at hm
      | some as' =>
        simp [hr, hrs] at hm
        subst hm
        have key : ∃ v v' , (readRes tmps r).run P w = .ok v' w ∧ VR φ v v' ∧ resK as' tm h (fun vs => k (v :: vs)) = true := by
          cases r with
          | tmp t =>
            cases hr
            have hk' : PT.getK (Pos.of t) tm (fun v => resK as' tm h fun vs => k (v :: vs)) = true := hk
            rw [PT.getK_eq] at hk'
            have := ht.2 (Pos.of t)
            rw [Pos.un_of] at this
            exact ⟨_, _, by simp [readRes, Sem.run], this, hk'⟩
          | cell ad t =>
            simp only [cRes] at hr
            split at hr
            · rename_i d s hu hs
              have hv := ht.2 (Pos.of ad)
              rw [Pos.un_of] at hv
              split at hr
              · rename_i hd
                cases hr
                have hk' : PT.getK (Pos.of ad) tm (fun v => ptrK v fun b o => readAt h b o s fun l => resK as' tm h fun vs => k (.agg ⟨l⟩ :: vs)) = true := hk
                rw [PT.getK_eq] at hk'
                obtain ⟨a0, hp, _⟩ := ptrK_t hk'
                have hv2 := hv
                rw [hp] at hv2
                obtain ⟨a', ha, _⟩ := hv2.ptr_inv
                rw [ha] at hv
                obtain ⟨l, l', h1, h2, h3⟩ := cells_read hu hd hs H hv hk'
                exact ⟨.agg ⟨l⟩, .agg l', by simp [readRes, ha, asAddr, Sem.run_bind, Result.andThen, h1], .agg _ _ h2, h3⟩
              · rename_i hd
                cases hr
                have hk' : PT.getK (Pos.of ad) tm (fun v => ptrK v fun b o => read1 h b o fun x => resK as' tm h fun vs => k (x :: vs)) = true := hk
                rw [PT.getK_eq] at hk'
                obtain ⟨a0, hp, _⟩ := ptrK_t hk'
                have hv2 := hv
                rw [hp] at hv2
                obtain ⟨a', ha, _⟩ := hv2.ptr_inv
                rw [ha] at hv
                obtain ⟨v, v', h1, h2, h3⟩ := cell_read hu (by simpa using hd) H hv hk'
                exact ⟨v, v', by simp [readRes, ha, asAddr, Sem.run_bind, Result.andThen, h1], h2, h3⟩
            · cases hr
        obtain ⟨v, v', h1, h2, h3⟩ := key
        obtain ⟨vs, vs', h4, h5, h6⟩ := ih hrs h3
        refine ⟨v :: vs, v' :: vs', ?_, .cons _ _ _ _ h2 h5, h6⟩
        rw [List.mapM_cons]
        simp [Sem.run_bind, h1, h4, Result.andThen, Sem.run]

theorem tupK_t {vs : List Value} {k : Value → Bool} (h : tupK vs k = true) : ∃ v, (vs = [v] ∨ ((∀ x, vs ≠ [x]) ∧ v = .tuple ⟨vs⟩)) ∧ k v = true := by
  match vs with
  | [] => exact ⟨_, .inr ⟨fun x hx => (by cases hx), rfl⟩, h⟩
  | [v] => exact ⟨v, .inl rfl, h⟩
  | a :: b :: l => exact ⟨_, .inr ⟨fun x hx => (by cases hx), rfl⟩, h⟩

theorem results_sound {fn : Func} {tmps : Array Value} {tm : PT} {n : Nat} {as : List ARes} {k : Value → Bool} (ht : TR φ tm n tmps) (H : HR P w0 φ h w) (hm : fn.results.toList.mapM (cRes P) = some as) (hk : resK as tm h (fun vs => tupK vs k) = true) :
    ∃ v v', (results fn tmps).run P w = .ok v' w ∧ VR φ v v' ∧ k v = true := by
  obtain ⟨vs, vs', h1, h2, h3⟩ := res_list ht H hm hk
  obtain ⟨v, h4, h5⟩ := tupK_t h3
  rw [results_eq, Array.mapM_eq_mapM_toList]
  refine ⟨v, if h : vs'.toArray.size = 1 then vs'.toArray[0] else .tuple vs'.toArray, ?_, ?_, h5⟩
  · simp only [Sem.run_bind, map_eq_pure_bind, h1, Result.andThen, Sem.run_pure]
  · rcases h4 with rfl | ⟨hne, rfl⟩
    · obtain ⟨x', hx, hv⟩ := LR.one h2
      subst hx
      simpa using hv
    · have hl := h2.length
      rw [dif_neg]
      · exact .tup _ _ h2
      · intro hsz
        simp at hsz
        rw [← hl] at hsz
        obtain ⟨x, hx⟩ := List.length_eq_one_iff.1 hsz
        exact hne x hx

/-! ### Leaving -/
theorem MoR.ne_run {m : Option Value} {u : FrameMode} (h : MoR φ m u) : u ≠ .run := by
  cases m with
  | none => intro e; rw [show u = .returning from h] at e; cases e
  | some v => obtain ⟨v', rfl, _⟩ := h; intro e; cases e
theorem MoR.ext {N : Nat} {φ' : Phi} (hE : Ext N φ φ') {m : Option Value} {u : FrameMode} (h : MoR φ m u) : MoR φ' m u := by
  cases m with
  | none => exact h
  | some v => obtain ⟨v', h1, h2⟩ := h; exact ⟨v', h1, VR.ext hE h2⟩

theorem DL.cons_inv {d : ADef} {l : List ADef} {l' : List Deferred} (h : DL φ (d :: l) l') : ∃ d' m, l' = d' :: m ∧ DR φ d d' ∧ DL φ l m := by
  cases h with | cons _ d' _ m h1 h2 => exact ⟨d', m, rfl, h1, h2⟩
theorem DL.nil_inv {l' : List Deferred} (h : DL φ [] l') : l' = [] := by cases h; rfl

theorem leave_sound {rec : Task → Bool} (hrec : ∀ t, rec t = true → TaskOk P w0 t) {ds : List ADef} {m : Option Value} {k : Option Value → AH → Bool} (e : stLeave rec ds m h k = true) : LeaveOk P w0 ds m h k := by
  intro φ fr cs w hd hm H
  cases ds with
  | nil =>
    have h0 := hd.nil_inv
    refine ⟨m, h, φ, w, fr.mode, e, Ext.refl _ _, Nat.le_refl _, H, hm, ?_⟩
    have : ({ fr with defers := [], mode := fr.mode } : Frame) = fr := by rw [← h0]
    rw [this]
    exact Steps.refl _ _
  | cons d ds =>
    obtain ⟨d', ds', hfd, hdr, hds⟩ := hd.cons_inv
    cases d with
    | coll r =>
      obtain ⟨t, h1, e1⟩ := defsK_t (show defsK h r _ = true from e)
      obtain ⟨ht, e2⟩ := iff_t e1
      cases t with
      | true => cases ht
      | false =>
        obtain ⟨ob', hset, e3⟩ := putK_t e2
        obtain ⟨hr1, r', rfl, hr2⟩ := hdr
        obtain ⟨b, dd, n, o', q1, q2, q3, q4⟩ := H.live hr1 h1
        have hb := hr2 _ _ _ q1
        subst hb
        cases q3 with
        | defs _ _ _ =>
          have hlt : r' < w.heap.size := (Array.getElem?_eq_some_iff.1 q2).1
          have H2 : HR P w0 φ ⟨h.nx, ob'⟩ (w.putObj r' (.deferred none)) :=
            H.upd (h' := ⟨h.nx, ob'⟩) q1 hset rfl (.defs dd n true) (q4 rfl) (World.putObj_heap_same hlt) (fun k hk => World.putObj_heap_other hk) World.putObj_size rfl rfl rfl
          have hstep := step_collected (P := P) (fr := fr) (cs := cs) (MoR.ne_run hm) hfd rfl (run_takeDeferred q2)
          have hL : LeaveOk P w0 ds m ⟨h.nx, ob'⟩ k := hrec _ e3
          obtain ⟨m', h', φ', w', u, a1, a2, a3, a4, a5, a6⟩ := hL φ { fr with defers := [] ++ ds' } cs _ hds hm H2
          exact ⟨m', h', φ', w', u, a1, a2, a3, a4, a5, .head hstep a6⟩
    | fn f args =>
      obtain ⟨capt, args', rfl, hl⟩ := hdr
      cases m with
      | none =>
        have e1 : rec (.dcall f args .off h fun _ h => rec (.leave ds none h k)) = true := e
        have hD : DcallOk P w0 f args .off h (fun _ h => rec (.leave ds none h k)) := hrec _ e1
        have hmode : fr.mode = .returning := hm
        have hstep := step_defer (P := P) (w := w) (fr := fr) (cs := cs) (MoR.ne_run hm) hfd rfl (run_invoke_fn hD.1 _ _)
        obtain ⟨rc', h', φ', w', c', fr', v, a1, a2, a3, a4, a5, a6, a7, a8⟩ := hD.2 φ _ w { fr with defers := ds' } cs hl H hmode
        have hc' : c' = { fr with defers := ds' } := by
          cases rc' with
          | off => exact a5.1
          | can v => exact a5.1
          | did => obtain ⟨v', hv', _⟩ := a5; rw [show ({ fr with defers := ds' } : Frame).mode = .returning from hmode] at hv'; cases hv'
        subst hc'
        have hback := step_going_returned (P := P) (c := { fr with defers := ds' }) (cs := cs) a7 a8
        have hset : settle ({ fr with defers := ds' } : Frame).mode = .returning := by rw [show ({ fr with defers := ds' } : Frame).mode = .returning from hmode]; rfl
        rw [hset] at hback
        have hL : LeaveOk P w0 ds none h' k := hrec _ a1
        obtain ⟨m', h2, φ2, w2, u, b1, b2, b3, b4, b5, b6⟩ := hL φ' ({ fr with defers := ds', mode := .returning } : Frame) cs w' (hds.ext a2) rfl a4
        exact ⟨m', h2, φ2, w2, u, b1, a2.trans b2 a3, Nat.le_trans a3 b3, b4, b5, .head hstep (Steps.trans a6 (.head hback b6))⟩
      | some v =>
        have e1 : rec (.dcall f args (.can v) h (settleK rec ds k)) = true := e
        have hD : DcallOk P w0 f args (.can v) h (settleK rec ds k) := hrec _ e1
        have hstep := step_defer (P := P) (w := w) (fr := fr) (cs := cs) (MoR.ne_run hm) hfd rfl (run_invoke_fn hD.1 _ _)
        obtain ⟨rc', h', φ', w', c', fr', v2, a1, a2, a3, a4, a5, a6, a7, a8⟩ := hD.2 φ _ w { fr with defers := ds' } cs hl H hm
        have hback := step_going_returned (P := P) (c := c') (cs := cs) a7 a8
        cases rc' with
        | off => cases a1
        | can v3 =>
          obtain ⟨rfl, v', q1, q2⟩ := a5
          have hset : settle ({ fr with defers := ds' } : Frame).mode = .panicking [{ v := v', recovered := false }] := by rw [q1]; rfl
          rw [hset] at hback
          have hL : LeaveOk P w0 ds (some v3) h' k := hrec _ a1
          obtain ⟨m', h2, φ2, w2, u, b1, b2, b3, b4, b5, b6⟩ := hL φ' ({ fr with defers := ds', mode := .panicking [{ v := v', recovered := false }] } : Frame) cs w' (hds.ext a2) ⟨v', rfl, q2⟩ a4
          exact ⟨m', h2, φ2, w2, u, b1, a2.trans b2 a3, Nat.le_trans a3 b3, b4, b5, .head hstep (Steps.trans a6 (.head hback b6))⟩
        | did =>
          obtain ⟨v', q1, rfl⟩ := a5
          have hL : LeaveOk P w0 ds none h' k := hrec _ a1
          obtain ⟨m', h2, φ2, w2, u, b1, b2, b3, b4, b5, b6⟩ := hL φ' ({ fr with defers := ds', mode := .returning } : Frame) cs w' (hds.ext a2) rfl a4
          exact ⟨m', h2, φ2, w2, u, b1, a2.trans b2 a3, Nat.le_trans a3 b3, b4, b5, .head hstep (Steps.trans a6 (.head hback b6))⟩

/-! ### Calls -/
/-- a body, from its entry -/
def bodyFrame (f : FuncId) (kind : CallKind) : Frame := { (default : Frame) with fn := f, kind, roundOf := none }

theorem enter_eq {f : FuncId} {fn : Func} {c : Code} (hf : P.funcs[f]? = some fn) (hb : fn.body = some c) (args : Array Value) (kind : CallKind) :
    Frame.enter P f args kind = (bodyFrame f kind).atR { tmps := args ++ Array.replicate (fn.ntmps - args.size) undef, defers := [] } [.code c] := by
  simp [Frame.enter, Frame.atR, hf, hb, bodyFrame]

variable {prog : NT AFn}

theorem RcR.normal {rc : Rc} {b : Frame} {cs0 cs : List Frame} (h : RcR φ rc b cs0 cs) (hb : b.kind = .normal) : cs = cs0 := by
  cases rc with
  | off => exact h.1
  | can v => exact h.1
  | did => have h1 := h.1; rw [hb] at h1; cases h1

/-- leaving, and what the function gives back -/
theorem left_sound {N : Nat} {f : FuncId} {fn : Func} {k : CR → AH → Bool} {fr : Frame} {cs : List Frame} {ds : List ADef} {m : Option Value} {kl : Option Value → AH → Bool} {m0 : Machine}
    (hL : LeaveOk P w0 ds m h kl) (hd : DL φ ds fr.defers) (hm : MoR φ m fr.mode) (H : HR P w0 φ h w) (hfn : fr.fn = f) (hf : P.funcs[f]? = some fn) (hkind : fr.kind = .normal) (hst : Steps P m0 (lone fr cs w)) (hN : N ≤ h.nx)
    (hkl : ∀ m' h', kl m' h' = true → (∃ v, m' = some v ∧ k (.pan v) h' = true) ∨ (m' = none ∧ (∀ φ' w', Ext h.nx φ φ' → HR P w0 φ' h' w' → ∃ v v', (Go.results fn fr.tmps).run P w' = .ok v' w' ∧ VR φ' v v' ∧ k (.ret v) h' = true))) :
    ∃ E w' fr', (∃ r h' φ', k r h' = true ∧ Ext N φ φ' ∧ N ≤ h'.nx ∧ HR P w0 φ' h' w' ∧ CRok φ' r E) ∧ Comes P m0 (lone fr' cs w') E ∧ fr'.fn = f ∧ fr'.leaving P w' E := by
  obtain ⟨m', h', φ', w', u, a1, a2, a3, a4, a5, a6⟩ := hL φ fr cs w hd hm H
  rcases hkl m' h' a1 with ⟨v, rfl, hk⟩ | ⟨rfl, hk⟩
  · obtain ⟨v', rfl, hv⟩ := a5
    exact ⟨.panicked [{ v := v', recovered := false }], w', { fr with defers := [], mode := .panicking [{ v := v', recovered := false }] }, ⟨.pan v, h', φ', hk, a2.mono hN, Nat.le_trans hN a3, a4, v', rfl, hv⟩, Steps.trans hst a6, hfn, rfl, rfl, fn, by rw [← hf, ← hfn]⟩
  · have hu : u = .returning := a5
    subst hu
    obtain ⟨v, v', b1, b2, b3⟩ := hk φ' w' a2 a4
    exact ⟨.returned v', w', { fr with defers := [], mode := .returning }, ⟨.ret v, h', φ', b3, a2.mono hN, Nat.le_trans hN a3, a4, v', rfl, b2⟩, Steps.trans hst a6, hfn, rfl, rfl, hkind, fn, by rw [← hf, ← hfn], b1⟩

theorem results_none {fn : Func} (hm : fn.results.toList.mapM (cRes P) = some []) (tmps : Array Value) (w : World) : (results fn tmps).run P w = .ok (.tuple #[]) w := by
  have : fn.results = #[] := by
    cases hl : fn.results.toList with
    | nil => exact Array.toList_eq_nil_iff.1 hl
    | cons r rs =>
      rw [hl, List.mapM_cons] at hm
      cases hr : cRes P r with
      | none => simp [hr] at hm
      | some a =>
        cases hrs : rs.mapM (cRes P) with
        | none => simp [hr, hrs] at hm
        | some as' => simp [hr, hrs] at hm
  simp [results, this, Sem.run_bind, Result.andThen]

theorem call_sound (hprog : ∀ f af, prog.get f = some af → cFn P f = some af) {rec : Task → Bool} (hrec : ∀ t, rec t = true → TaskOk P w0 t) {f : FuncId} {args : List Value} {k : CR → AH → Bool} (e : stCall prog rec f args h k = true) : CallOk P w0 f args h k := by
  obtain ⟨af, haf, e1⟩ := NT.getK_sound _ _ _ (show NT.getK prog f _ = true from e)
  obtain ⟨fn, c, hf, hcan, hb, hres, hcode, hnt⟩ := cFn_t (hprog f af haf)
  have e2 : layArgs 0 args .e (fun tm => rec (.code af.code ⟨f, af.ntmps, none⟩ ⟨tm, [], .off, h⟩ (endK rec af.results k))) = true := by cases af; exact e1
  obtain ⟨tm, e3, htm⟩ := layArgs_t _ e2
  refine ⟨hcan, fun φ args' w hl H cs => ?_⟩
  rw [enter_eq hf hb]
  have hC : TaskOk P w0 (.code af.code ⟨f, af.ntmps, none⟩ ⟨tm, [], .off, h⟩ (endK rec af.results k)) := hrec _ e3
  rw [hnt] at hC
  have hTR := tr_args (n := fn.ntmps) hl htm
  obtain ⟨x, s1, φ1, cs1, a1, w1, g1, g2, g3, g4, g5⟩ := hC c hcode φ (bodyFrame f .normal) cs cs { tmps := args' ++ Array.replicate (fn.ntmps - args'.size) undef, defers := [] } w
    ⟨⟨.nil, ⟨rfl, .inl rfl⟩, H⟩, hTR⟩ ⟨rfl, rfl⟩ (.code c) (.inl rfl) []
  have hN1 : h.nx ≤ s1.h.nx := g3
  cases x with
  | exit id => cases g1
  | normal =>
    have g4' : SR P w0 φ1 ⟨f, fn.ntmps, none⟩ s1 (bodyFrame f .normal) cs cs1 a1 w1 := g4
    have hcs := g4'.rc.normal rfl
    subst hcs
    have hL : LeaveOk P w0 s1.df none s1.h (leftK af.results s1.tm k) := hrec _ g1
    obtain ⟨E, w', fr', ⟨r, h', φ', b1, b2, b3, b4, b5⟩, b6, b7, b8⟩ := left_sound (f := f) (fn := fn) (N := s1.h.nx) (k := k) (fr := { (bodyFrame f .normal).atR a1 [] with mode := .returning }) (cs := cs1) hL g4'.df rfl g4'.heap rfl hf rfl (Steps.trans g5 (.one (stepR_end rfl))) (Nat.le_refl _) (fun m' h' hk => by
      cases m' with
      | some v => exact .inl ⟨v, rfl, hk⟩
      | none => exact .inr ⟨rfl, fun φ' w' hE hH => results_sound (g4'.tm.ext hE) hH hres hk⟩)
    exact ⟨E, w', fr', ⟨r, h', φ', b1, g2.trans b2 hN1, Nat.le_trans hN1 b3, b4, b5⟩, b6, b7, b8⟩
  | ret =>
    obtain ⟨k1, g5⟩ := g5
    have g4' : SR P w0 φ1 ⟨f, fn.ntmps, none⟩ s1 (bodyFrame f .normal) cs cs1 a1 w1 := g4
    have hcs := g4'.rc.normal rfl
    subst hcs
    have hL : LeaveOk P w0 s1.df none s1.h (leftK af.results s1.tm k) := hrec _ g1
    obtain ⟨E, w', fr', ⟨r, h', φ', b1, b2, b3, b4, b5⟩, b6, b7, b8⟩ := left_sound (f := f) (fn := fn) (N := s1.h.nx) (k := k) (fr := { (bodyFrame f .normal).atR a1 (.code .ret :: k1) with mode := .returning }) (cs := cs1) hL g4'.df rfl g4'.heap rfl hf rfl (Steps.trans g5 (.one (stepR_ret rfl))) (Nat.le_refl _) (fun m' h' hk => by
      cases m' with
      | some v => exact .inl ⟨v, rfl, hk⟩
      | none => exact .inr ⟨rfl, fun φ' w' hE hH => results_sound (g4'.tm.ext hE) hH hres hk⟩)
    exact ⟨E, w', fr', ⟨r, h', φ', b1, g2.trans b2 hN1, Nat.le_trans hN1 b3, b4, b5⟩, b6, b7, b8⟩
  | pan v =>
    obtain ⟨k1, v', hv, g5⟩ := g5
    have g4' : SQ P w0 φ1 s1 (bodyFrame f .normal) cs cs1 a1 w1 := g4
    have hcs := g4'.rc.normal rfl
    subst hcs
    have hL : LeaveOk P w0 s1.df (some v) s1.h (leftP af.results k) := hrec _ g1
    obtain ⟨E, w', fr', ⟨r, h', φ', b1, b2, b3, b4, b5⟩, b6, b7, b8⟩ := left_sound (f := f) (fn := fn) (N := s1.h.nx) (k := k) (fr := { (bodyFrame f .normal).atR a1 k1 with mode := .panicking [{ v := v', recovered := false }] }) (cs := cs1) hL g4'.df ⟨v', rfl, hv⟩ g4'.heap rfl hf rfl g5 (Nat.le_refl _) (fun m' h' hk => by
      cases m' with
      | some v => exact .inl ⟨v, rfl, hk⟩
      | none =>
        refine .inr ⟨rfl, fun φ' w' hE hH => ?_⟩
        have hk' : (match af.results with | [] => k (.ret (.tuple ⟨[]⟩)) h' | _ => false) = true := hk
        split at hk'
        · rename_i hr
          rw [hr] at hres
          exact ⟨_, _, results_none hres _ _, .tup ⟨[]⟩ #[] .nil, hk'⟩
        · cases hk')
    exact ⟨E, w', fr', ⟨r, h', φ', b1, g2.trans b2 hN1, Nat.le_trans hN1 b3, b4, b5⟩, b6, b7, b8⟩

theorem dnil_t {df : List ADef} {k : Bool} (h : dnil df k = true) : df = [] ∧ k = true := by cases df with | nil => exact ⟨rfl, h⟩ | cons _ _ => cases h

theorem dcall_sound (hprog : ∀ f af, prog.get f = some af → cFn P f = some af) {rec : Task → Bool} (hrec : ∀ t, rec t = true → TaskOk P w0 t) {f : FuncId} {args : List Value} {rc : Rc} {k : Rc → AH → Bool} (e : stDcall prog rec f args rc h k = true) : DcallOk P w0 f args rc h k := by
  obtain ⟨af, haf, e1⟩ := NT.getK_sound _ _ _ (show NT.getK prog f _ = true from e)
  obtain ⟨fn, c, hf, hcan, hb, hres, hcode, hnt⟩ := cFn_t (hprog f af haf)
  have e2 : af.results = [] ∧ layArgs 0 args .e (fun tm => rec (.code af.code ⟨f, af.ntmps, none⟩ ⟨tm, [], rc, h⟩ (dendK k))) = true := by
    cases af with
    | mk nt rs code => cases rs with
      | nil => exact ⟨rfl, e1⟩
      | cons _ _ => cases e1
  obtain ⟨hnil, e2⟩ := e2
  rw [hnil] at hres
  obtain ⟨tm, e3, htm⟩ := layArgs_t _ e2
  refine ⟨hcan, fun φ args' w cl cs hl H hrc => ?_⟩
  rw [enter_eq hf hb]
  have hC : TaskOk P w0 (.code af.code ⟨f, af.ntmps, none⟩ ⟨tm, [], rc, h⟩ (dendK k)) := hrec _ e3
  rw [hnt] at hC
  have hTR := tr_args (n := fn.ntmps) hl htm
  have hrc0 : RcR φ rc (bodyFrame f .deferred) (cl :: cs) (cl :: cs) := by
    cases rc with
    | off => exact ⟨rfl, .inr ⟨rfl, cl, cs, rfl, hrc⟩⟩
    | can v => obtain ⟨v', q1, q2⟩ := hrc; exact ⟨rfl, rfl, cl, cs, v', rfl, q1, q2⟩
    | did => exact hrc.elim
  obtain ⟨x, s1, φ1, cs1, a1, w1, g1, g2, g3, g4, g5⟩ := hC c hcode φ (bodyFrame f .deferred) (cl :: cs) (cl :: cs) { tmps := args' ++ Array.replicate (fn.ntmps - args'.size) undef, defers := [] } w
    ⟨⟨.nil, hrc0, H⟩, hTR⟩ ⟨rfl, rfl⟩ (.code c) (.inl rfl) []
  have hend : ∀ {cs1 : List Frame} {rc1 : Rc}, RcR φ1 rc1 (bodyFrame f .deferred) (cl :: cs) cs1 → ∃ c', cs1 = c' :: cs ∧ RcEnd φ1 rc1 cl c' := by
    intro cs1 rc1 hr
    cases rc1 with
    | off =>
      obtain ⟨rfl, hn | ⟨_, c1, rest, hc, hm⟩⟩ := hr
      · cases hn
      · cases hc; exact ⟨cl, rfl, rfl, hm⟩
    | can v => obtain ⟨rfl, _, c1, rest, v', hc, hm, hv⟩ := hr; cases hc; exact ⟨cl, rfl, rfl, v', hm, hv⟩
    | did => obtain ⟨_, c1, rest, v', hc, hm, rfl⟩ := hr; cases hc; exact ⟨_, rfl, v', hm, rfl⟩
  cases x with
  | exit id => cases g1
  | pan v => cases g1
  | normal =>
    have g4' : SR P w0 φ1 ⟨f, fn.ntmps, none⟩ s1 (bodyFrame f .deferred) (cl :: cs) cs1 a1 w1 := g4
    obtain ⟨hdf, hk⟩ := dnil_t (show dnil s1.df (k s1.rc s1.h) = true from g1)
    obtain ⟨c', rfl, hce⟩ := hend g4'.rc
    have hd0 := g4'.df
    rw [hdf] at hd0
    exact ⟨s1.rc, s1.h, φ1, w1, c', { (bodyFrame f .deferred).atR a1 [] with mode := .returning }, _, hk, g2, g3, g4'.heap, hce, Steps.trans g5 (.one (stepR_end rfl)), rfl, rfl, hd0.nil_inv, fn, hf, results_none hres _ _⟩
  | ret =>
    obtain ⟨k1, g5⟩ := g5
    have g4' : SR P w0 φ1 ⟨f, fn.ntmps, none⟩ s1 (bodyFrame f .deferred) (cl :: cs) cs1 a1 w1 := g4
    obtain ⟨hdf, hk⟩ := dnil_t (show dnil s1.df (k s1.rc s1.h) = true from g1)
    obtain ⟨c', rfl, hce⟩ := hend g4'.rc
    have hd0 := g4'.df
    rw [hdf] at hd0
    exact ⟨s1.rc, s1.h, φ1, w1, c', { (bodyFrame f .deferred).atR a1 (.code .ret :: k1) with mode := .returning }, _, hk, g2, g3, g4'.heap, hce, Steps.trans g5 (.one (stepR_ret rfl)), rfl, rfl, hd0.nil_inv, fn, hf, results_none hres _ _⟩
end
end Go.Ve
/- VEval, part 19: rounds of a range over a function. No condition. -/
namespace Go.Ve
open Go.RowKit
section
variable {P : Program} {w0 w : World} {φ : Phi} {h : AH}

theorem setAll_t : ∀ (ps : List Tmp) {vs : List Value} {vs' : List Value} {t : PT} {n : Nat} {tm : Array Value} {k : PT → Bool}, (∀ p ∈ ps, p < n) → LR φ vs vs' → TR φ t n tm → setAll (ps.map Pos.of) vs t k = true →
    ps.length = vs'.length ∧ ∃ t', TR φ t' n ((ps.zip vs').foldl (fun tmps (x : Tmp × Value) => tmps.setIfInBounds x.1 x.2) tm) ∧ k t' = true := by
  intro ps
  induction ps with
  | nil =>
    intro vs vs' t n tm k _ hl ht hk
    obtain ⟨hn, hk'⟩ := a0_t (show a0 vs (k t) = true from hk)
    subst hn
    have := hl.nil_inv
    subst this
    exact ⟨rfl, t, by simpa using ht, hk'⟩
  | cons p ps ih =>
    intro vs vs' t n tm k hp hl ht hk
    cases hl with
    | nil => cases hk
    | cons v v' vs vs' hv hl =>
      have hk' : PT.setK (Pos.of p) t v (fun t => setAll (ps.map Pos.of) vs t k) = true := hk
      rw [PT.setK_eq] at hk'
      have ht' := ht.set (Pos.of p) (by rw [Pos.un_of]; exact hp p (by simp)) hv
      rw [Pos.un_of] at ht'
      obtain ⟨h1, t', h2, h3⟩ := ih (fun q hq => hp q (by simp [hq])) hl ht' hk'
      exact ⟨by simp [h1], t', by simpa using h2, h3⟩

theorem foldl_zip (ps : Array Tmp) (vs : Array Value) (tm : Array Value) : (ps.zip vs).foldl (fun tmps (t, a) => tmps.setIfInBounds t a) tm = (ps.toList.zip vs.toList).foldl (fun tmps (x : Tmp × Value) => tmps.setIfInBounds x.1 x.2) tm := by
  rw [← Array.foldl_toList]
  simp only [Array.toList_zip]

theorem roundFin_t (H : HR P w0 φ h w) {l l' : Nat} (hl : φ l ≠ none) (hl' : ∀ b d n, φ l = some (.live b d n) → l' = b) {k : CR → AH → Bool} {j : Option Code} {st : LoopState} {b : Bool} (hst : st = if j.isNone then .ready else .done) (hb : b = j.isNone) (e : roundFin l h k j st b = true) :
    ∃ h' w', k (.ret (.bool b)) h' = true ∧ h.nx ≤ h'.nx ∧ HR P w0 φ h' w' ∧ (Instr.endRound l' j).run P w = .ok (.bool b) w' := by
  obtain ⟨r, h1, e1⟩ := loopK_t e
  obtain ⟨ob', hset, e2⟩ := putK_t e1
  obtain ⟨b0, d, n, r', q1, q2, q3, q4⟩ := H.loop hl h1
  have := hl' _ _ _ q1
  subst this
  have hU := q3.upd st j
  refine ⟨⟨h.nx, ob'⟩, _, e2, Nat.le_refl _, H.putLoop q1 q2 q4 hset hU, ?_⟩
  rw [run_endRound j q2, hb, hst]

theorem round_sound {rec : Task → Bool} (hrec : ∀ t, rec t = true → TaskOk P w0 t) {l : Nat} {args : List Value} {k : CR → AH → Bool} (e : stRound rec l args h k = true) : RoundOk P w0 l args h k := by
  intro φ args' l' w hl hm hm' H
  obtain ⟨r, h1, e1⟩ := loopK_t e
  obtain ⟨b0, d, n, r', q1, q2, q3, q4⟩ := H.loop hm h1
  have hb0 := hm' _ _ _ q1
  subst hb0
  rw [q3.params] at e1
  obtain ⟨hlen, tm, htm, e2⟩ := setAll_t _ q3.small hl q3.tm e1
  have hsz : args'.size = r'.params.size := by simpa using hlen.symm
  refine ⟨r'.fn, _, r'.assign, r'.body, run_yield q2 hsz, fun c cs => ?_⟩
  rw [foldl_zip]
  generalize (r'.params.toList.zip args'.toList).foldl (fun tmps (x : Tmp × Value) => tmps.setIfInBounds x.1 x.2) r'.tmps = tmps at htm
  let b : Frame := { (default : Frame) with fn := r'.fn, kind := .normal, roundOf := some l' }
  have hfr : Frame.round l' r'.fn tmps r'.assign r'.body .normal = b.atR { tmps := tmps, defers := [] } [.code r'.assign, .beginRound, .code r'.body] := by
    simp [Frame.round, Frame.atR, b]
  rw [hfr]
  have hE : ∀ {φ' : Phi}, Ext h.nx φ φ' → EnvR φ' ⟨r.fn, r.nt, some l⟩ b := fun {φ'} hE => ⟨q3.fn, rfl, l', rfl, hE.keep hm, fun b d n hh => hm' b d n (hE.live hm hh)⟩
  have hC : TaskOk P w0 (.code r.assign ⟨r.fn, r.nt, some l⟩ ⟨tm, [], .off, h⟩ (roundMid rec l r k)) := hrec _ e2
  obtain ⟨x, s1, φ1, cs1, a1, w1, g1, g2, g3, g4, g5⟩ := hC r'.assign q3.assign φ b (c :: cs) (c :: cs) { tmps := tmps, defers := [] } w ⟨⟨.nil, ⟨rfl, .inl rfl⟩, H⟩, htm⟩ (hE (Ext.refl _ _)) _ (.inl rfl) [.beginRound, .code r'.body]
  cases x with
  | exit id => cases g1
  | ret => cases g1
  | pan v => cases g1
  | normal =>
    have g4' : SR P w0 φ1 ⟨r.fn, r.nt, some l⟩ s1 b (c :: cs) cs1 a1 w1 := g4
    have hcs := g4'.rc.normal rfl
    subst hcs
    obtain ⟨r2, k1, g6⟩ := loopK_t (show loopK s1.h l _ = true from g1)
    obtain ⟨hrd, g7⟩ := iff_t g6
    obtain ⟨ob', hset, g8⟩ := putK_t g7
    have hm1 : φ1 l ≠ none := g2.keep hm
    obtain ⟨b1, d1, n1, r2', u1, u2, u3, u4⟩ := g4'.heap.loop hm1 k1
    have hb1 := hm' _ _ _ (g2.live hm u1)
    subst hb1
    have hready : r2'.state = .ready := by
      rw [u3.state]
      cases hh : r2.state <;> rw [hh] at hrd <;> first | rfl | cases hrd
    have hU := u3.upd .busy r2.pend
    rw [show ({ r2' with state := .busy, pending := r2.pend } : Loop) = { r2' with state := .busy } from by rw [← u3.pend]] at hU
    have H2 := g4'.heap.putLoop u1 u2 u4 hset hU
    have hbeg := stepR_beginRound (P := P) (b := b) (a := a1) (k := [.code r'.body]) (cs := c :: cs) (l := l') rfl (run_beginRound u2 hready)
    have hC2 : TaskOk P w0 (.code r.body ⟨r.fn, r.nt, some l⟩ ⟨s1.tm, s1.df, s1.rc, ⟨s1.h.nx, ob'⟩⟩ (roundEnd l k)) := hrec _ g8
    obtain ⟨x, s2, φ2, cs2, a2, w2, f1, f2, f3, f4, f5⟩ := hC2 r'.body q3.body φ1 b (c :: cs) (c :: cs) a1 _ ⟨⟨g4'.df, g4'.rc, H2⟩, g4'.tm⟩ (hE g2) _ (.inl rfl) []
    obtain ⟨hdf, f1⟩ := dnil_t (show dnil s2.df _ = true from f1)
    have hE2 : Ext h.nx φ φ2 := g2.trans f2 g3
    have hm2 : φ2 l ≠ none := hE2.keep hm
    have hm2' : ∀ b d n, φ2 l = some (.live b d n) → l' = b := fun b d n hh => hm' b d n (hE2.live hm hh)
    have hpre := Steps.trans g5 (.one hbeg)
    have hN : h.nx ≤ s2.h.nx := Nat.le_trans g3 f3
    cases x with
    | pan v => cases f1
    | normal =>
      have f4' : SR P w0 φ2 ⟨r.fn, r.nt, some l⟩ s2 b (c :: cs) cs2 a2 w2 := f4
      have hcs := f4'.rc.normal rfl
      subst hcs
      obtain ⟨h', w', z1, z2, z3, z4⟩ := roundFin_t f4'.heap hm2 hm2' rfl rfl f1
      exact ⟨_, _, h', φ2, w', z1, hE2, Nat.le_trans hN z2, z3, .bool true, Steps.trans hpre (Steps.trans f5 (.one (stepR_round_end rfl rfl z4)))⟩
    | ret =>
      obtain ⟨k1, f5⟩ := f5
      have f4' : SR P w0 φ2 ⟨r.fn, r.nt, some l⟩ s2 b (c :: cs) cs2 a2 w2 := f4
      have hcs := f4'.rc.normal rfl
      subst hcs
      obtain ⟨h', w', z1, z2, z3, z4⟩ := roundFin_t f4'.heap hm2 hm2' rfl rfl f1
      exact ⟨_, _, h', φ2, w', z1, hE2, Nat.le_trans hN z2, z3, .bool false, Steps.trans hpre (Steps.trans f5 (.one (stepR_round_ret rfl rfl z4)))⟩
    | exit id =>
      obtain ⟨k1, hk1, f5⟩ := f5
      have f4' : SR P w0 φ2 ⟨r.fn, r.nt, some l⟩ s2 b (c :: cs) cs2 a2 w2 := f4
      have hcs := f4'.rc.normal rfl
      subst hcs
      obtain ⟨h', w', z1, z2, z3, z4⟩ := roundFin_t f4'.heap hm2 hm2' rfl rfl f1
      exact ⟨_, _, h', φ2, w', z1, hE2, Nat.le_trans hN z2, z3, .bool false, Steps.trans hpre (Steps.trans f5 (.one (stepR_round_exit rfl rfl (by rw [hk1]; rfl) z4)))⟩
end
end Go.Ve
/- VEval, part 20: an operation that neither acts nor makes a block gives one value, and the same over any heap that holds as much. No condition. -/
namespace Go.Ve
open Go.RowKit

def HLe (h h2 : AH) : Prop := ∀ f o, h.ob.get f = some o → h2.ob.get f = some o
theorem HLe.refl (h : AH) : HLe h h := fun _ _ e => e
theorem HLe.trans {a b c : AH} (h : HLe a b) (h' : HLe b c) : HLe a c := fun f o e => h' f o (h f o e)

def DetP (X : AH → KV → Bool) : Prop := ∀ h k, X h k = true → ∃ v, k v h = true ∧ ∀ h2 k2, HLe h h2 → k2 v h2 = true → X h2 k2 = true

theorem NT.getK_i {α : Type} : ∀ (t : NT α) (i : Nat) (k : α → Bool) (x : α), t.get i = some x → t.getK i k = k x
  | .e, i, k, x, h => by cases h
  | .n l v r, i, k, x, h => by
    rw [NT.getK_n]
    rw [NT.get] at h
    cases h0 : Nat.beq i 0 with
    | true => rw [h0] at h; have h' : v = some x := h; rw [h']; rfl
    | false =>
      rw [h0] at h
      cases h1 : Nat.beq (Nat.mod i 2) 1 with
      | true => rw [h1] at h; exact NT.getK_i l _ k x h
      | false => rw [h1] at h; exact NT.getK_i r _ k x h

theorem obK_i {h : AH} {b : Nat} {o : AO} {k : AO → Bool} (e : h.ob.get b = some o) : obK h b k = k o := by
  cases h; exact NT.getK_i _ _ _ _ e

theorem readK_i : ∀ (n : Nat) {c : NT Value} {i : Nat} {l : List Value} {k : List Value → Bool}, l.length = n → (∀ j v, l[j]? = some v → c.get (i + j) = some v) → readK c i n k = k l := by
  intro n
  induction n with
  | zero => intro c i l k hl _; have : l = [] := List.length_eq_zero_iff.1 hl; subst this; rfl
  | succ n ih =>
    intro c i l k hl hc
    cases l with
    | nil => cases hl
    | cons v l =>
      have h0 : c.get i = some v := hc 0 v (by simp)
      show NT.getK c i (fun v => fN (Nat.succ i) fun i' => readK c i' n fun l => k (v :: l)) = k (v :: l)
      rw [NT.getK_i _ _ _ _ h0, fN_eq]
      exact ih (by simpa using hl) (fun j u hj => by
        have := hc (j + 1) u (by simpa using hj)
        rw [show i + (j + 1) = Nat.succ i + j from by omega] at this
        exact this)

section
variable {X Y : AH → KV → Bool}
theorem D_pure (v : Value) : DetP (fun h k => k v h) := fun _ _ e => ⟨v, e, fun _ _ _ e' => e'⟩
theorem D_false : DetP (fun _ _ => false) := fun _ _ e => by cases e
theorem D_iff {c : Bool} (hx : DetP X) : DetP (fun h k => iff c (X h k)) := fun h k e => by
  obtain ⟨rfl, e1⟩ := iff_t e
  exact hx h k e1
theorem D_bif {c : Bool} (hx : DetP X) (hy : DetP Y) : DetP (fun h k => bif c then X h k else Y h k) := by
  cases c
  · exact hy
  · exact hx
theorem D_case {c : Bool} (hx : DetP X) (hy : DetP Y) : DetP (fun h k => Bool.casesOn (motive := fun _ => Bool) c (X h k) (Y h k)) := by
  cases c
  · exact hx
  · exact hy
theorem D_a0 {vs : List Value} (hx : DetP X) : DetP (fun h k => a0 vs (X h k)) := by
  cases vs with
  | nil => exact hx
  | cons _ _ => exact D_false
theorem D_a1 {vs : List Value} {X : Value → AH → KV → Bool} (hx : ∀ x, DetP (X x)) : DetP (fun h k => a1 vs (fun x => X x h k)) := by
  cases vs with
  | nil => exact D_false
  | cons x vs => exact D_a0 (hx x)
theorem D_a2 {vs : List Value} {X : Value → Value → AH → KV → Bool} (hx : ∀ x y, DetP (X x y)) : DetP (fun h k => a2 vs (fun x y => X x y h k)) := by
  cases vs with
  | nil => exact D_false
  | cons x vs => exact D_a1 (hx x)
theorem D_a3 {vs : List Value} {X : Value → Value → Value → AH → KV → Bool} (hx : ∀ x y z, DetP (X x y z)) : DetP (fun h k => a3 vs (fun x y z => X x y z h k)) := by
  cases vs with
  | nil => exact D_false
  | cons x vs => exact D_a2 (hx x)
theorem D_fN {n : Nat} {X : Nat → AH → KV → Bool} (hx : ∀ m, DetP (X m)) : DetP (fun h k => fN n (fun m => X m h k)) := by
  simp only [fN_eq]; exact hx n
theorem D_fI {n : Int} {X : Int → AH → KV → Bool} (hx : ∀ m, DetP (X m)) : DetP (fun h k => fI n (fun m => X m h k)) := by
  simp only [fI_eq]; exact hx n
theorem D_fB {n : Bool} {X : Bool → AH → KV → Bool} (hx : ∀ m, DetP (X m)) : DetP (fun h k => fB n (fun m => X m h k)) := by
  simp only [fB_eq]; exact hx n
theorem D_ptrK {v : Value} {X : Nat → Nat → AH → KV → Bool} (hx : ∀ b o, DetP (X b o)) : DetP (fun h k => ptrK v (fun b o => X b o h k)) := by
  cases v <;> first
    | exact D_false
    | (rename_i a; cases a with
        | none => exact D_false
        | some a => cases a; exact hx _ _)
theorem D_aggK {v : Value} {X : List Value → AH → KV → Bool} (hx : ∀ l, DetP (X l)) : DetP (fun h k => aggK v (fun l => X l h k)) := by
  cases v <;> first
    | exact D_false
    | (rename_i a; cases a; exact hx _)
theorem D_tupK1 {v : Value} {X : List Value → AH → KV → Bool} (hx : ∀ l, DetP (X l)) : DetP (fun h k => tupK1 v (fun l => X l h k)) := by
  cases v <;> first
    | exact D_false
    | (rename_i a; cases a; exact hx _)
theorem D_boolK {v : Value} {X : Bool → AH → KV → Bool} (hx : ∀ l, DetP (X l)) : DetP (fun h k => boolK v (fun l => X l h k)) := by
  cases v <;> first
    | exact D_false
    | exact hx _
theorem D_intK {v : Value} {X : IntKind → Int → AH → KV → Bool} (hx : ∀ kd n, DetP (X kd n)) : DetP (fun h k => intK v (fun kd n => X kd n h k)) := by
  cases v <;> first
    | exact D_false
    | exact hx _ _
theorem D_natK {v : Value} {X : Nat → AH → KV → Bool} (hx : ∀ n, DetP (X n)) : DetP (fun h k => natK v (fun n => X n h k)) := by
  cases v <;> first
    | exact D_false
    | (rename_i kd n; cases n <;> first | exact hx _ | exact D_false)
theorem D_strK {v : Value} {X : ByteArray → AH → KV → Bool} (hx : ∀ l, DetP (X l)) : DetP (fun h k => strK v (fun l => X l h k)) := by
  cases v <;> first
    | exact D_false
    | exact hx _
theorem D_slK {v : Value} {X : Nat → Nat → Nat → Nat → AH → KV → Bool} (hy : DetP Y) (hx : ∀ b o l c, DetP (X b o l c)) : DetP (fun h k => slK v (Y h k) (fun b o l c => X b o l c h k)) := by
  cases v <;> first
    | exact D_false
    | (rename_i a l c; cases a with
        | none => exact hy
        | some a => cases a; exact hx _ _ _ _)
theorem D_mpK {v : Value} {X : Nat → AH → KV → Bool} (hy : DetP Y) (hx : ∀ r, DetP (X r)) : DetP (fun h k => mpK v (Y h k) (fun r => X r h k)) := by
  cases v <;> first
    | exact D_false
    | (rename_i a; cases a with
        | none => exact hy
        | some a => exact hx _)
theorem D_nthK {X : Value → AH → KV → Bool} (hx : ∀ v, DetP (X v)) : ∀ {l : List Value} {n : Nat}, DetP (fun h k => nthK l n (fun v => X v h k)) := by
  intro l
  induction l with
  | nil => intro n; exact D_false
  | cons a l ih =>
    intro n
    cases n with
    | zero => exact hx a
    | succ n => exact ih
theorem D_takeK : ∀ {l : List Value} {n : Nat} {X : List Value → AH → KV → Bool}, (∀ v, DetP (X v)) → DetP (fun h k => takeK l n (fun v => X v h k)) := by
  intro l
  induction l with
  | nil =>
    intro n X hx
    cases n with
    | zero => exact hx _
    | succ n => exact D_false
  | cons a l ih =>
    intro n X hx
    cases n with
    | zero => exact hx _
    | succ n => exact ih (X := fun v => X (a :: v)) fun v => hx _
theorem D_dropK {X : List Value → AH → KV → Bool} (hx : ∀ v, DetP (X v)) : ∀ {l : List Value} {n : Nat}, DetP (fun h k => dropK l n (fun v => X v h k)) := by
  intro l
  induction l with
  | nil =>
    intro n
    cases n with
    | zero => exact hx _
    | succ n => exact D_false
  | cons a l ih =>
    intro n
    cases n with
    | zero => exact hx _
    | succ n => exact ih
theorem D_overK : ∀ {vs l : List Value} {X : List Value → AH → KV → Bool}, (∀ v, DetP (X v)) → DetP (fun h k => overK l vs (fun v => X v h k)) := by
  intro vs l
  induction l generalizing vs with
  | nil =>
    intro X hx
    cases vs with
    | nil => exact hx _
    | cons a vs => exact D_false
  | cons a l ih =>
    intro X hx
    cases vs with
    | nil => exact hx _
    | cons b vs => exact ih (X := fun v => X (b :: v)) fun v => hx _
theorem D_spliceK : ∀ {l : List Value} {n : Nat} {vs : List Value} {X : List Value → AH → KV → Bool}, (∀ v, DetP (X v)) → DetP (fun h k => spliceK l n vs (fun v => X v h k)) := by
  intro l
  induction l with
  | nil =>
    intro n vs X hx
    cases n with
    | zero => exact (D_overK hx : DetP (fun h k => overK [] vs (fun v => X v h k)))
    | succ n => exact D_false
  | cons a l ih =>
    intro n vs X hx
    cases n with
    | zero => exact (D_overK hx : DetP (fun h k => overK (a :: l) vs (fun v => X v h k)))
    | succ n => exact ih (X := fun v => X (a :: v)) fun v => hx _
theorem D_appL : ∀ {l m : List Value} {X : List Value → AH → KV → Bool}, (∀ v, DetP (X v)) → DetP (fun h k => appL l m (fun v => X v h k)) := by
  intro l
  induction l with
  | nil => intro m X hx; exact hx _
  | cons a l ih => intro m X hx; exact ih (X := fun v => X (a :: v)) fun v => hx _
theorem D_fillK : ∀ {ps : List (Nat × Nat)} {l vs : List Value} {X : List Value → AH → KV → Bool}, (∀ v, DetP (X v)) → DetP (fun h k => fillK l ps vs (fun v => X v h k)) := by
  intro ps
  induction ps with
  | nil =>
    intro l vs X hx
    cases vs with
    | nil => exact hx _
    | cons a vs => exact D_false
  | cons p ps ih =>
    intro l vs X hx
    cases vs with
    | nil => exact D_false
    | cons a vs =>
      obtain ⟨off, sz⟩ := p
      exact D_bif (D_spliceK fun l' => ih hx) D_false
theorem D_joinK : ∀ {ss : List Nat} {vs : List Value} {X : List Value → AH → KV → Bool}, (∀ v, DetP (X v)) → DetP (fun h k => joinK ss vs (fun v => X v h k)) := by
  intro ss
  induction ss with
  | nil => intro vs X hx; exact D_a0 (hx [])
  | cons n ss ih =>
    intro vs X hx
    cases vs with
    | nil => exact D_false
    | cons v vs => exact D_iff (ih (X := fun l h k => appL (cellsOf v) l fun l => X l h k) fun l => D_appL hx)
theorem D_optK {b : Bool} {vs : List Value} {d : Nat} {X : Nat → List Value → AH → KV → Bool} (hx : ∀ n vs, DetP (X n vs)) : DetP (fun h k => optK b vs d (fun n vs => X n vs h k)) := by
  cases b with
  | false => exact hx _ _
  | true =>
    cases vs with
    | nil => exact D_false
    | cons v vs => exact D_natK fun n => hx n vs
theorem D_optBK {o : Option Bool} {ng : Bool} : DetP (fun h k => optBK o ng (fun v => k v h)) := by
  cases o with
  | none => exact D_false
  | some b => exact D_fB fun b => D_pure _
theorem D_read1 {b o : Nat} {X : Value → AH → KV → Bool} (hx : ∀ v, DetP (X v)) : DetP (fun h k => read1 h b o (fun v => X v h k)) := fun h k e => by
  obtain ⟨lo, hi, ty, rw, c, v, h1, h2, h3, h4, h5⟩ := read1_t e
  obtain ⟨u, hu, hr⟩ := hx v h k h5
  refine ⟨u, hu, fun hh k2 hle hk => ?_⟩
  show obK hh b _ = true
  rw [obK_i (hle _ _ h1)]
  show iff (Nat.ble lo o && Nat.ble (Nat.succ o) hi) (NT.getK c o fun v => X v hh k2) = true
  rw [NT.getK_i _ _ _ _ h4, (iff_eq _ _)]
  exact ⟨by simp; exact ⟨h2, h3⟩, hr hh k2 hle hk⟩
theorem D_readAt {b o n : Nat} {X : List Value → AH → KV → Bool} (hx : ∀ v, DetP (X v)) : DetP (fun h k => readAt h b o n (fun v => X v h k)) := fun h k e => by
  obtain ⟨lo, hi, ty, rw, c, l, h1, h2, h3, h4, h5, h6⟩ := readAt_t e
  obtain ⟨u, hu, hr⟩ := hx l h k h6
  refine ⟨u, hu, fun hh k2 hle hk => ?_⟩
  show obK hh b _ = true
  rw [obK_i (hle _ _ h1)]
  show iff (Nat.ble lo o && Nat.ble (Nat.add o n) hi) (readK c o n fun v => X v hh k2) = true
  rw [readK_i n h4 h5, (iff_eq _ _)]
  exact ⟨by simp; exact ⟨h2, h3⟩, hr hh k2 hle hk⟩
theorem D_mapK {b : Nat} {X : List (Value × Value × Nat) → Nat → AH → KV → Bool} (hx : ∀ es cl, DetP (X es cl)) : DetP (fun h k => mapK h b (fun es cl => X es cl h k)) := fun h k e => by
  obtain ⟨es, cl, h1, h2⟩ := mapK_t e
  obtain ⟨u, hu, hr⟩ := hx es cl h k h2
  refine ⟨u, hu, fun hh k2 hle hk => ?_⟩
  show obK hh b _ = true
  rw [obK_i (hle _ _ h1)]
  exact hr hh k2 hle hk
theorem D_findK {kc : Nat} {X : Option Value → AH → KV → Bool} (hx : ∀ v, DetP (X v)) : ∀ {es : List (Value × Value × Nat)} {x : Value}, DetP (fun h k => findK kc es x (fun v => X v h k)) := by
  intro es x
  induction es with
  | nil => exact hx none
  | cons p es ih =>
    obtain ⟨a, v, n⟩ := p
    cases hq : eqScal kc x a with
    | none => simp only [findK, hq]; exact D_false
    | some t => cases t <;> simp only [findK, hq]
                · exact ih
                · exact hx _
theorem D_lookE {zero : Value} {ok : Bool} {o : Option Value} : DetP (fun h k => lookE zero ok h k o) := by
  cases o <;> cases ok <;> exact D_pure _
end


theorem D_sliceCapK {sz l h m cap : Nat} {hasM : Bool} {b o : Nat} : DetP (fun hh k => sliceCapK sz l h m cap hasM b o (fun v => k v hh)) := by
  unfold sliceCapK; repeat (first | exact D_pure _ | exact D_false | exact D_optBK | exact D_lookE | apply D_iff | apply D_bif | apply D_case | apply D_a1 | apply D_a2 | apply D_a3 | apply D_fN | apply D_fI | apply D_fB | apply D_ptrK | apply D_aggK | apply D_tupK1 | apply D_boolK | apply D_natK | apply D_intK | apply D_strK | apply D_slK | apply D_mpK | apply D_nthK | apply D_takeK | apply D_dropK | apply D_appL | apply D_fillK | apply D_joinK | apply D_optK | apply D_read1 | apply D_readAt | apply D_mapK | apply D_findK | (intro _))
theorem D_eqNilD {x y : Option Bool} {ng : Bool} : DetP (fun h k => eqNilD x y ng (fun v => k v h)) := by
  cases x with
  | none => cases y <;> exact D_false
  | some a =>
    cases y with
    | none => cases a <;> exact D_false
    | some b => cases a <;> cases b <;> simp only [eqNilD] <;> first | exact D_optBK | exact D_false
theorem D_sopD {op : BinOp} {a b : ByteArray} : DetP (fun h k => sopD op a b (fun v => k v h)) := by
  cases op <;> first | exact D_false | exact D_fB fun _ => D_pure _
theorem D_iopE {op : BinOp} {kd : IntKind} {a b : Int} : DetP (fun h k => iopE op kd a b (fun v => k v h)) := by
  cases op <;> first
    | exact D_false
    | exact D_fB fun _ => D_pure _
    | exact D_fI fun _ => D_pure _
    | exact D_bif D_false (D_fI fun _ => D_pure _)
    | (cases kd <;> first
        | exact D_false
        | (cases a <;> cases b <;> first | exact D_false | exact D_bif (D_fN fun _ => D_pure _) D_false))
theorem D_shrE {kd : IntKind} {a b : Int} : DetP (fun h k => shrE kd a b (fun v => k v h)) := by
  cases kd <;> first
    | exact D_false
    | (cases a <;> cases b <;> first | exact D_false | exact D_bif (D_fN fun _ => D_pure _) D_false)
theorem D_iopD {op : BinOp} {kx ky : IntKind} {a b : Int} : DetP (fun h k => iopD op kx a ky b (fun v => k v h)) := by
  cases op <;> first
    | exact D_false
    | exact D_shrE
    | exact D_iff D_iopE
theorem D_assD {ty : TypeId} {zero x : Value} : DetP (fun h k => assD ty zero x (fun v => k v h)) := by
  cases x <;> first
    | exact D_false
    | exact D_pure _
    | exact D_bif (D_pure _) (D_pure _)

theorem prim_det (p : Prim) (ha : p.acts = false) (hm : p.makes = false) (vs : List Value) : DetP (fun h k => p.ev vs h k) := by
  cases p
  case move => change DetP (fun h k => ev_move vs h k); unfold ev_move; repeat (first | exact D_pure _ | exact D_false | exact D_optBK | exact D_lookE | apply D_iff | apply D_bif | apply D_case | apply D_a1 | apply D_a2 | apply D_a3 | apply D_fN | apply D_fI | apply D_fB | apply D_ptrK | apply D_aggK | apply D_tupK1 | apply D_boolK | apply D_natK | apply D_intK | apply D_strK | apply D_slK | apply D_mpK | apply D_nthK | apply D_takeK | apply D_dropK | apply D_appL | apply D_fillK | apply D_joinK | apply D_optK | apply D_read1 | apply D_readAt | apply D_mapK | apply D_findK | (intro _))
  case pick => change DetP (fun h k => ev_pick vs h k); unfold ev_pick; repeat (first | exact D_pure _ | exact D_false | exact D_optBK | exact D_lookE | apply D_iff | apply D_bif | apply D_case | apply D_a1 | apply D_a2 | apply D_a3 | apply D_fN | apply D_fI | apply D_fB | apply D_ptrK | apply D_aggK | apply D_tupK1 | apply D_boolK | apply D_natK | apply D_intK | apply D_strK | apply D_slK | apply D_mpK | apply D_nthK | apply D_takeK | apply D_dropK | apply D_appL | apply D_fillK | apply D_joinK | apply D_optK | apply D_read1 | apply D_readAt | apply D_mapK | apply D_findK | (intro _))
  case alloc => cases hm
  case box => cases hm
  case buildSlice => cases hm
  case build z ps => change DetP (fun h k => ev_build z ps vs h k); unfold ev_build; repeat (first | exact D_pure _ | exact D_false | exact D_optBK | exact D_lookE | apply D_iff | apply D_bif | apply D_case | apply D_a1 | apply D_a2 | apply D_a3 | apply D_fN | apply D_fI | apply D_fB | apply D_ptrK | apply D_aggK | apply D_tupK1 | apply D_boolK | apply D_natK | apply D_intK | apply D_strK | apply D_slK | apply D_mpK | apply D_nthK | apply D_takeK | apply D_dropK | apply D_appL | apply D_fillK | apply D_joinK | apply D_optK | apply D_read1 | apply D_readAt | apply D_mapK | apply D_findK | (intro _))
  case buildAll ss => change DetP (fun h k => ev_buildAll ss vs h k); unfold ev_buildAll; repeat (first | exact D_pure _ | exact D_false | exact D_optBK | exact D_lookE | apply D_iff | apply D_bif | apply D_case | apply D_a1 | apply D_a2 | apply D_a3 | apply D_fN | apply D_fI | apply D_fB | apply D_ptrK | apply D_aggK | apply D_tupK1 | apply D_boolK | apply D_natK | apply D_intK | apply D_strK | apply D_slK | apply D_mpK | apply D_nthK | apply D_takeK | apply D_dropK | apply D_appL | apply D_fillK | apply D_joinK | apply D_optK | apply D_read1 | apply D_readAt | apply D_mapK | apply D_findK | (intro _))
  case load1 => change DetP (fun h k => ev_load1 vs h k); unfold ev_load1; repeat (first | exact D_pure _ | exact D_false | exact D_optBK | exact D_lookE | apply D_iff | apply D_bif | apply D_case | apply D_a1 | apply D_a2 | apply D_a3 | apply D_fN | apply D_fI | apply D_fB | apply D_ptrK | apply D_aggK | apply D_tupK1 | apply D_boolK | apply D_natK | apply D_intK | apply D_strK | apply D_slK | apply D_mpK | apply D_nthK | apply D_takeK | apply D_dropK | apply D_appL | apply D_fillK | apply D_joinK | apply D_optK | apply D_read1 | apply D_readAt | apply D_mapK | apply D_findK | (intro _))
  case loadN n => change DetP (fun h k => ev_loadN n vs h k); unfold ev_loadN; repeat (first | exact D_pure _ | exact D_false | exact D_optBK | exact D_lookE | apply D_iff | apply D_bif | apply D_case | apply D_a1 | apply D_a2 | apply D_a3 | apply D_fN | apply D_fI | apply D_fB | apply D_ptrK | apply D_aggK | apply D_tupK1 | apply D_boolK | apply D_natK | apply D_intK | apply D_strK | apply D_slK | apply D_mpK | apply D_nthK | apply D_takeK | apply D_dropK | apply D_appL | apply D_fillK | apply D_joinK | apply D_optK | apply D_read1 | apply D_readAt | apply D_mapK | apply D_findK | (intro _))
  case store => cases ha
  case nilCheck => change DetP (fun h k => ev_nilCheck vs h k); unfold ev_nilCheck; repeat (first | exact D_pure _ | exact D_false | exact D_optBK | exact D_lookE | apply D_iff | apply D_bif | apply D_case | apply D_a1 | apply D_a2 | apply D_a3 | apply D_fN | apply D_fI | apply D_fB | apply D_ptrK | apply D_aggK | apply D_tupK1 | apply D_boolK | apply D_natK | apply D_intK | apply D_strK | apply D_slK | apply D_mpK | apply D_nthK | apply D_takeK | apply D_dropK | apply D_appL | apply D_fillK | apply D_joinK | apply D_optK | apply D_read1 | apply D_readAt | apply D_mapK | apply D_findK | (intro _))
  case fieldAddr o => change DetP (fun h k => ev_fieldAddr o vs h k); unfold ev_fieldAddr; repeat (first | exact D_pure _ | exact D_false | exact D_optBK | exact D_lookE | apply D_iff | apply D_bif | apply D_case | apply D_a1 | apply D_a2 | apply D_a3 | apply D_fN | apply D_fI | apply D_fB | apply D_ptrK | apply D_aggK | apply D_tupK1 | apply D_boolK | apply D_natK | apply D_intK | apply D_strK | apply D_slK | apply D_mpK | apply D_nthK | apply D_takeK | apply D_dropK | apply D_appL | apply D_fillK | apply D_joinK | apply D_optK | apply D_read1 | apply D_readAt | apply D_mapK | apply D_findK | (intro _))
  case field1 o => change DetP (fun h k => ev_field1 o vs h k); unfold ev_field1; repeat (first | exact D_pure _ | exact D_false | exact D_optBK | exact D_lookE | apply D_iff | apply D_bif | apply D_case | apply D_a1 | apply D_a2 | apply D_a3 | apply D_fN | apply D_fI | apply D_fB | apply D_ptrK | apply D_aggK | apply D_tupK1 | apply D_boolK | apply D_natK | apply D_intK | apply D_strK | apply D_slK | apply D_mpK | apply D_nthK | apply D_takeK | apply D_dropK | apply D_appL | apply D_fillK | apply D_joinK | apply D_optK | apply D_read1 | apply D_readAt | apply D_mapK | apply D_findK | (intro _))
  case fieldN o n => change DetP (fun h k => ev_fieldN o n vs h k); unfold ev_fieldN; repeat (first | exact D_pure _ | exact D_false | exact D_optBK | exact D_lookE | apply D_iff | apply D_bif | apply D_case | apply D_a1 | apply D_a2 | apply D_a3 | apply D_fN | apply D_fI | apply D_fB | apply D_ptrK | apply D_aggK | apply D_tupK1 | apply D_boolK | apply D_natK | apply D_intK | apply D_strK | apply D_slK | apply D_mpK | apply D_nthK | apply D_takeK | apply D_dropK | apply D_appL | apply D_fillK | apply D_joinK | apply D_optK | apply D_read1 | apply D_readAt | apply D_mapK | apply D_findK | (intro _))
  case idxSlice s => change DetP (fun h k => ev_idxSlice s vs h k); unfold ev_idxSlice; repeat (first | exact D_pure _ | exact D_false | exact D_optBK | exact D_lookE | apply D_iff | apply D_bif | apply D_case | apply D_a1 | apply D_a2 | apply D_a3 | apply D_fN | apply D_fI | apply D_fB | apply D_ptrK | apply D_aggK | apply D_tupK1 | apply D_boolK | apply D_natK | apply D_intK | apply D_strK | apply D_slK | apply D_mpK | apply D_nthK | apply D_takeK | apply D_dropK | apply D_appL | apply D_fillK | apply D_joinK | apply D_optK | apply D_read1 | apply D_readAt | apply D_mapK | apply D_findK | (intro _))
  case idxArr l s => change DetP (fun h k => ev_idxArr l s vs h k); unfold ev_idxArr; repeat (first | exact D_pure _ | exact D_false | exact D_optBK | exact D_lookE | apply D_iff | apply D_bif | apply D_case | apply D_a1 | apply D_a2 | apply D_a3 | apply D_fN | apply D_fI | apply D_fB | apply D_ptrK | apply D_aggK | apply D_tupK1 | apply D_boolK | apply D_natK | apply D_intK | apply D_strK | apply D_slK | apply D_mpK | apply D_nthK | apply D_takeK | apply D_dropK | apply D_appL | apply D_fillK | apply D_joinK | apply D_optK | apply D_read1 | apply D_readAt | apply D_mapK | apply D_findK | (intro _))
  case index1 l => change DetP (fun h k => ev_index1 l vs h k); unfold ev_index1; repeat (first | exact D_pure _ | exact D_false | exact D_optBK | exact D_lookE | apply D_iff | apply D_bif | apply D_case | apply D_a1 | apply D_a2 | apply D_a3 | apply D_fN | apply D_fI | apply D_fB | apply D_ptrK | apply D_aggK | apply D_tupK1 | apply D_boolK | apply D_natK | apply D_intK | apply D_strK | apply D_slK | apply D_mpK | apply D_nthK | apply D_takeK | apply D_dropK | apply D_appL | apply D_fillK | apply D_joinK | apply D_optK | apply D_read1 | apply D_readAt | apply D_mapK | apply D_findK | (intro _))
  case indexN l s => change DetP (fun h k => ev_indexN l s vs h k); unfold ev_indexN; repeat (first | exact D_pure _ | exact D_false | exact D_optBK | exact D_lookE | apply D_iff | apply D_bif | apply D_case | apply D_a1 | apply D_a2 | apply D_a3 | apply D_fN | apply D_fI | apply D_fB | apply D_ptrK | apply D_aggK | apply D_tupK1 | apply D_boolK | apply D_natK | apply D_intK | apply D_strK | apply D_slK | apply D_mpK | apply D_nthK | apply D_takeK | apply D_dropK | apply D_appL | apply D_fillK | apply D_joinK | apply D_optK | apply D_read1 | apply D_readAt | apply D_mapK | apply D_findK | (intro _))
  case indexS =>
    change DetP (fun h k => ev_indexS vs h k); unfold ev_indexS
    refine D_a2 fun x i => D_natK fun i => D_strK fun s => ?_
    cases s.data.toList[i]? with
    | none => exact D_false
    | some c => exact D_fN fun _ => D_pure _
  case slice sz lo hi mx =>
    change DetP (fun h k => ev_slice sz lo hi mx vs h k); unfold ev_slice
    cases vs with
    | nil => exact D_false
    | cons x vs => exact D_slK (D_optK fun _ _ => D_optK fun _ _ => D_iff (D_pure _)) fun b o len cap => D_optK fun l vs => D_optK fun hh vs => D_optK fun m vs => D_iff D_sliceCapK
  case sliceS lo hi => change DetP (fun h k => ev_sliceS lo hi vs h k); unfold ev_sliceS; repeat (first | exact D_pure _ | exact D_false | exact D_optBK | exact D_lookE | apply D_iff | apply D_bif | apply D_case | apply D_a1 | apply D_a2 | apply D_a3 | apply D_fN | apply D_fI | apply D_fB | apply D_ptrK | apply D_aggK | apply D_tupK1 | apply D_boolK | apply D_natK | apply D_intK | apply D_strK | apply D_slK | apply D_mpK | apply D_nthK | apply D_takeK | apply D_dropK | apply D_appL | apply D_fillK | apply D_joinK | apply D_optK | apply D_read1 | apply D_readAt | apply D_mapK | apply D_findK | (intro _))
  case sliceA n sz lo hi mx =>
    change DetP (fun h k => ev_sliceA n sz lo hi mx vs h k); unfold ev_sliceA
    cases vs with
    | nil => exact D_false
    | cons x vs => exact D_ptrK fun b o => D_optK fun l vs => D_optK fun hh vs => D_optK fun m vs => D_iff D_sliceCapK
  case iop op => change DetP (fun h k => ev_iop op vs h k); unfold ev_iop; exact D_a2 fun x y => D_intK fun _ _ => D_intK fun _ _ => D_iopD
  case sop op => change DetP (fun h k => ev_sop op vs h k); unfold ev_sop; exact D_a2 fun x y => D_strK fun _ => D_strK fun _ => D_sopD
  case eqNil nk ng => change DetP (fun h k => ev_eqNil nk ng vs h k); unfold ev_eqNil; exact D_a2 fun x y => D_eqNilD
  case eqB ng => change DetP (fun h k => ev_eqB ng vs h k); unfold ev_eqB; repeat (first | exact D_pure _ | exact D_false | exact D_optBK | exact D_lookE | apply D_iff | apply D_bif | apply D_case | apply D_a1 | apply D_a2 | apply D_a3 | apply D_fN | apply D_fI | apply D_fB | apply D_ptrK | apply D_aggK | apply D_tupK1 | apply D_boolK | apply D_natK | apply D_intK | apply D_strK | apply D_slK | apply D_mpK | apply D_nthK | apply D_takeK | apply D_dropK | apply D_appL | apply D_fillK | apply D_joinK | apply D_optK | apply D_read1 | apply D_readAt | apply D_mapK | apply D_findK | (intro _))
  case eqAgg ng ks => change DetP (fun h k => ev_eqAgg ng ks vs h k); unfold ev_eqAgg; repeat (first | exact D_pure _ | exact D_false | exact D_optBK | exact D_lookE | apply D_iff | apply D_bif | apply D_case | apply D_a1 | apply D_a2 | apply D_a3 | apply D_fN | apply D_fI | apply D_fB | apply D_ptrK | apply D_aggK | apply D_tupK1 | apply D_boolK | apply D_natK | apply D_intK | apply D_strK | apply D_slK | apply D_mpK | apply D_nthK | apply D_takeK | apply D_dropK | apply D_appL | apply D_fillK | apply D_joinK | apply D_optK | apply D_read1 | apply D_readAt | apply D_mapK | apply D_findK | (intro _))
  case neg => change DetP (fun h k => ev_neg vs h k); unfold ev_neg; repeat (first | exact D_pure _ | exact D_false | exact D_optBK | exact D_lookE | apply D_iff | apply D_bif | apply D_case | apply D_a1 | apply D_a2 | apply D_a3 | apply D_fN | apply D_fI | apply D_fB | apply D_ptrK | apply D_aggK | apply D_tupK1 | apply D_boolK | apply D_natK | apply D_intK | apply D_strK | apply D_slK | apply D_mpK | apply D_nthK | apply D_takeK | apply D_dropK | apply D_appL | apply D_fillK | apply D_joinK | apply D_optK | apply D_read1 | apply D_readAt | apply D_mapK | apply D_findK | (intro _))
  case notB => change DetP (fun h k => ev_notB vs h k); unfold ev_notB; repeat (first | exact D_pure _ | exact D_false | exact D_optBK | exact D_lookE | apply D_iff | apply D_bif | apply D_case | apply D_a1 | apply D_a2 | apply D_a3 | apply D_fN | apply D_fI | apply D_fB | apply D_ptrK | apply D_aggK | apply D_tupK1 | apply D_boolK | apply D_natK | apply D_intK | apply D_strK | apply D_slK | apply D_mpK | apply D_nthK | apply D_takeK | apply D_dropK | apply D_appL | apply D_fillK | apply D_joinK | apply D_optK | apply D_read1 | apply D_readAt | apply D_mapK | apply D_findK | (intro _))
  case conv kd => change DetP (fun h k => ev_conv kd vs h k); unfold ev_conv; repeat (first | exact D_pure _ | exact D_false | exact D_optBK | exact D_lookE | apply D_iff | apply D_bif | apply D_case | apply D_a1 | apply D_a2 | apply D_a3 | apply D_fN | apply D_fI | apply D_fB | apply D_ptrK | apply D_aggK | apply D_tupK1 | apply D_boolK | apply D_natK | apply D_intK | apply D_strK | apply D_slK | apply D_mpK | apply D_nthK | apply D_takeK | apply D_dropK | apply D_appL | apply D_fillK | apply D_joinK | apply D_optK | apply D_read1 | apply D_readAt | apply D_mapK | apply D_findK | (intro _))
  case mkFunc fn n => change DetP (fun h k => ev_mkFunc fn n vs h k); unfold ev_mkFunc; repeat (first | exact D_pure _ | exact D_false | exact D_optBK | exact D_lookE | apply D_iff | apply D_bif | apply D_case | apply D_a1 | apply D_a2 | apply D_a3 | apply D_fN | apply D_fI | apply D_fB | apply D_ptrK | apply D_aggK | apply D_tupK1 | apply D_boolK | apply D_natK | apply D_intK | apply D_strK | apply D_slK | apply D_mpK | apply D_nthK | apply D_takeK | apply D_dropK | apply D_appL | apply D_fillK | apply D_joinK | apply D_optK | apply D_read1 | apply D_readAt | apply D_mapK | apply D_findK | (intro _))
  case mkIface t => change DetP (fun h k => ev_mkIface t vs h k); unfold ev_mkIface; repeat (first | exact D_pure _ | exact D_false | exact D_optBK | exact D_lookE | apply D_iff | apply D_bif | apply D_case | apply D_a1 | apply D_a2 | apply D_a3 | apply D_fN | apply D_fI | apply D_fB | apply D_ptrK | apply D_aggK | apply D_tupK1 | apply D_boolK | apply D_natK | apply D_intK | apply D_strK | apply D_slK | apply D_mpK | apply D_nthK | apply D_takeK | apply D_dropK | apply D_appL | apply D_fillK | apply D_joinK | apply D_optK | apply D_read1 | apply D_readAt | apply D_mapK | apply D_findK | (intro _))
  case mkMap => cases ha
  case mkSlice => cases ha
  case lookup kc z ok => change DetP (fun h k => ev_lookup kc z ok vs h k); unfold ev_lookup; repeat (first | exact D_pure _ | exact D_false | exact D_optBK | exact D_lookE | apply D_iff | apply D_bif | apply D_case | apply D_a1 | apply D_a2 | apply D_a3 | apply D_fN | apply D_fI | apply D_fB | apply D_ptrK | apply D_aggK | apply D_tupK1 | apply D_boolK | apply D_natK | apply D_intK | apply D_strK | apply D_slK | apply D_mpK | apply D_nthK | apply D_takeK | apply D_dropK | apply D_appL | apply D_fillK | apply D_joinK | apply D_optK | apply D_read1 | apply D_readAt | apply D_mapK | apply D_findK | (intro _))
  case mapUpd => cases ha
  case extract i => change DetP (fun h k => ev_extract i vs h k); unfold ev_extract; repeat (first | exact D_pure _ | exact D_false | exact D_optBK | exact D_lookE | apply D_iff | apply D_bif | apply D_case | apply D_a1 | apply D_a2 | apply D_a3 | apply D_fN | apply D_fI | apply D_fB | apply D_ptrK | apply D_aggK | apply D_tupK1 | apply D_boolK | apply D_natK | apply D_intK | apply D_strK | apply D_slK | apply D_mpK | apply D_nthK | apply D_takeK | apply D_dropK | apply D_appL | apply D_fillK | apply D_joinK | apply D_optK | apply D_read1 | apply D_readAt | apply D_mapK | apply D_findK | (intro _))
  case lenSl => change DetP (fun h k => ev_lenSl vs h k); unfold ev_lenSl; repeat (first | exact D_pure _ | exact D_false | exact D_optBK | exact D_lookE | apply D_iff | apply D_bif | apply D_case | apply D_a1 | apply D_a2 | apply D_a3 | apply D_fN | apply D_fI | apply D_fB | apply D_ptrK | apply D_aggK | apply D_tupK1 | apply D_boolK | apply D_natK | apply D_intK | apply D_strK | apply D_slK | apply D_mpK | apply D_nthK | apply D_takeK | apply D_dropK | apply D_appL | apply D_fillK | apply D_joinK | apply D_optK | apply D_read1 | apply D_readAt | apply D_mapK | apply D_findK | (intro _))
  case lenStr => change DetP (fun h k => ev_lenStr vs h k); unfold ev_lenStr; repeat (first | exact D_pure _ | exact D_false | exact D_optBK | exact D_lookE | apply D_iff | apply D_bif | apply D_case | apply D_a1 | apply D_a2 | apply D_a3 | apply D_fN | apply D_fI | apply D_fB | apply D_ptrK | apply D_aggK | apply D_tupK1 | apply D_boolK | apply D_natK | apply D_intK | apply D_strK | apply D_slK | apply D_mpK | apply D_nthK | apply D_takeK | apply D_dropK | apply D_appL | apply D_fillK | apply D_joinK | apply D_optK | apply D_read1 | apply D_readAt | apply D_mapK | apply D_findK | (intro _))
  case lenMap => change DetP (fun h k => ev_lenMap vs h k); unfold ev_lenMap; repeat (first | exact D_pure _ | exact D_false | exact D_optBK | exact D_lookE | apply D_iff | apply D_bif | apply D_case | apply D_a1 | apply D_a2 | apply D_a3 | apply D_fN | apply D_fI | apply D_fB | apply D_ptrK | apply D_aggK | apply D_tupK1 | apply D_boolK | apply D_natK | apply D_intK | apply D_strK | apply D_slK | apply D_mpK | apply D_nthK | apply D_takeK | apply D_dropK | apply D_appL | apply D_fillK | apply D_joinK | apply D_optK | apply D_read1 | apply D_readAt | apply D_mapK | apply D_findK | (intro _))
  case lenArr n => change DetP (fun h k => ev_lenArr n vs h k); unfold ev_lenArr; repeat (first | exact D_pure _ | exact D_false | exact D_optBK | exact D_lookE | apply D_iff | apply D_bif | apply D_case | apply D_a1 | apply D_a2 | apply D_a3 | apply D_fN | apply D_fI | apply D_fB | apply D_ptrK | apply D_aggK | apply D_tupK1 | apply D_boolK | apply D_natK | apply D_intK | apply D_strK | apply D_slK | apply D_mpK | apply D_nthK | apply D_takeK | apply D_dropK | apply D_appL | apply D_fillK | apply D_joinK | apply D_optK | apply D_read1 | apply D_readAt | apply D_mapK | apply D_findK | (intro _))
  case append => cases ha
  case copy => cases ha
  case maxI => change DetP (fun h k => ev_maxI vs h k); unfold ev_maxI; repeat (first | exact D_pure _ | exact D_false | exact D_optBK | exact D_lookE | apply D_iff | apply D_bif | apply D_case | apply D_a1 | apply D_a2 | apply D_a3 | apply D_fN | apply D_fI | apply D_fB | apply D_ptrK | apply D_aggK | apply D_tupK1 | apply D_boolK | apply D_natK | apply D_intK | apply D_strK | apply D_slK | apply D_mpK | apply D_nthK | apply D_takeK | apply D_dropK | apply D_appL | apply D_fillK | apply D_joinK | apply D_optK | apply D_read1 | apply D_readAt | apply D_mapK | apply D_findK | (intro _))
  case minI => change DetP (fun h k => ev_minI vs h k); unfold ev_minI; repeat (first | exact D_pure _ | exact D_false | exact D_optBK | exact D_lookE | apply D_iff | apply D_bif | apply D_case | apply D_a1 | apply D_a2 | apply D_a3 | apply D_fN | apply D_fI | apply D_fB | apply D_ptrK | apply D_aggK | apply D_tupK1 | apply D_boolK | apply D_natK | apply D_intK | apply D_strK | apply D_slK | apply D_mpK | apply D_nthK | apply D_takeK | apply D_dropK | apply D_appL | apply D_fillK | apply D_joinK | apply D_optK | apply D_read1 | apply D_readAt | apply D_mapK | apply D_findK | (intro _))
  case assertTo t z => change DetP (fun h k => ev_assertTo t z vs h k); unfold ev_assertTo; exact D_a1 fun x => D_assD
  case rangeS => cases ha
  case nextS => cases ha
end Go.Ve
/- VEval, part 21: a region that draws its order: values that stand for the same; what a made block holds. No condition. -/
namespace Go.Ve
open Go.RowKit

def VEq (v u : Value) : Prop := ∀ φ x, VR φ v x ↔ VR φ u x
def LEq (l m : List Value) : Prop := ∀ φ x, LR φ l x ↔ LR φ m x
theorem VEq.refl (v : Value) : VEq v v := fun _ _ => Iff.rfl
theorem LEq.refl (v : List Value) : LEq v v := fun _ _ => Iff.rfl
theorem VEq.of_eq {v u : Value} (h : v = u) : VEq v u := h ▸ VEq.refl v

theorem AtR.same {φ : Phi} {a b x : Addr} (h1 : a.block = b.block) (h2 : a.off = b.off) (h : AtR φ a x) : AtR φ b x := fun bl d n hb => by
  have := h bl d n (by rw [h1]; exact hb)
  rw [h2] at this; exact this
theorem CapR.same {φ : Phi} {a b x : Addr} {len cap cap' : Nat} (h1 : a.block = b.block) (h2 : a.off = b.off) (h : CapR φ a x len cap cap') : CapR φ b x len cap cap' := by
  rcases h with ⟨h3, h4, h5, h6⟩ | ⟨sz, h3, h4, h5, h6⟩
  · exact .inl ⟨h3, h4, h5, fun hp => (h6 hp).same h1 h2⟩
  · exact .inr ⟨sz, h3, h4, h5, fun hp => ⟨(h6 hp).1.same h1 h2, fun bl d n hb => (h6 hp).2 bl d n (by rw [h1]; exact hb)⟩⟩
theorem VEq.ptr {a b : Addr} (h1 : a.block = b.block) (h2 : a.off = b.off) : VEq (.pointer (some a)) (.pointer (some b)) := fun φ x => by
  constructor
  · intro h; cases h with | ptr _ a' q1 q2 => exact .ptr _ _ (h1 ▸ q1) (q2.same h1 h2)
  · intro h; cases h with | ptr _ a' q1 q2 => exact .ptr _ _ (h1 ▸ q1) (q2.same h1.symm h2.symm)
theorem VEq.sl {a b : Addr} {l c : Nat} (h1 : a.block = b.block) (h2 : a.off = b.off) : VEq (.slice (some a) l c) (.slice (some b) l c) := fun φ x => by
  constructor
  · intro h; cases h with | sl _ a' _ _ _ q1 q2 => exact .sl _ _ _ _ _ (h1 ▸ q1) (q2.same h1 h2)
  · intro h; cases h with | sl _ a' _ _ _ q1 q2 => exact .sl _ _ _ _ _ (h1 ▸ q1) (q2.same h1.symm h2.symm)
theorem LEq.cons {a b : Value} {l m : List Value} (h : VEq a b) (hl : LEq l m) : LEq (a :: l) (b :: m) := fun φ x => by
  constructor
  · intro h'; cases h' with | cons _ _ _ _ q1 q2 => exact .cons _ _ _ _ ((h _ _).1 q1) ((hl _ _).1 q2)
  · intro h'; cases h' with | cons _ _ _ _ q1 q2 => exact .cons _ _ _ _ ((h _ _).2 q1) ((hl _ _).2 q2)
theorem VEq.agg {l m : List Value} (h : LEq l m) : VEq (.agg ⟨l⟩) (.agg ⟨m⟩) := fun φ x => by
  constructor
  · intro h'; cases h' with | agg _ _ q1 => exact .agg _ _ ((h _ _).1 q1)
  · intro h'; cases h' with | agg _ _ q1 => exact .agg _ _ ((h _ _).2 q1)
theorem VEq.tup {l m : List Value} (h : LEq l m) : VEq (.tuple ⟨l⟩) (.tuple ⟨m⟩) := fun φ x => by
  constructor
  · intro h'; cases h' with | tup _ _ q1 => exact .tup _ _ ((h _ _).1 q1)
  · intro h'; cases h' with | tup _ _ q1 => exact .tup _ _ ((h _ _).2 q1)
theorem VEq.func {fn : Fn} {a b c d : List Value} (h1 : LEq a c) (h2 : LEq b d) : VEq (.func fn ⟨a⟩ ⟨b⟩) (.func fn ⟨c⟩ ⟨d⟩) := fun φ x => by
  constructor
  · intro h'; cases h' with | func _ _ _ _ _ _ q0 q1 q2 => exact .func _ _ _ _ _ _ q0 ((h1 _ _).1 q1) ((h2 _ _).1 q2)
  · intro h'; cases h' with | func _ _ _ _ _ _ q0 q1 q2 => exact .func _ _ _ _ _ _ q0 ((h1 _ _).2 q1) ((h2 _ _).2 q2)

theorem valEq0_t {a b : Value} (h : valEq0 a b = true) : VEq a b := by
  unfold valEq0 at h
  split at h
  · rename_i x y; exact .of_eq (by cases x <;> cases y <;> first | rfl | cases h)
  · rename_i kd x kd' y
    cases hk : eqK kd kd' with
    | false => rw [hk] at h; cases h
    | true =>
      rw [hk] at h
      have h' : eqI x y = true := h
      rw [eqI_eq] at h'
      have := eqK_t hk
      have h'' : x = y := by simpa using h'
      exact .of_eq (by rw [this, h''])
  · rename_i x y
    rw [eqBs_eq] at h
    have : x.data.toList = y.data.toList := by simpa using h
    have h2 : x = y := by cases x; cases y; simp only at this; congr 1; exact Array.toList_inj.1 this
    exact .of_eq (by rw [h2])
  · exact .refl _
  · simp only [Bool.and_eq_true, Nat.beq_eq] at h
    exact .ptr h.1 h.2
  · simp only [Bool.and_eq_true, Nat.beq_eq] at h
    exact .of_eq (by rw [h.1, h.2])
  · simp only [Bool.and_eq_true, Nat.beq_eq] at h
    obtain ⟨⟨⟨h1, h2⟩, h3⟩, h4⟩ := h
    subst h3; subst h4
    exact .sl h1 h2
  · exact .refl _
  · simp only [Nat.beq_eq] at h
    exact .of_eq (by rw [h])
  · exact .refl _
  · exact .refl _
  · cases h
theorem valEqL0_t : ∀ {l m : List Value}, valEqL0 l m = true → LEq l m
  | [], [], _ => .refl _
  | a :: l, b :: m, h => by
    simp only [valEqL0, Bool.and_eq_true] at h
    exact .cons (valEq0_t h.1) (valEqL0_t h.2)
  | [], _ :: _, h => by cases h
  | _ :: _, [], h => by cases h
theorem valEq1_t {a b : Value} (h : valEq1 a b = true) : VEq a b := by
  unfold valEq1 at h
  split at h
  · simp only [Bool.and_eq_true, Nat.beq_eq] at h
    obtain ⟨⟨h1, h2⟩, h3⟩ := h
    subst h1
    exact .func (valEqL0_t h2) (valEqL0_t h3)
  · exact valEq0_t h
theorem valEqL_t : ∀ {l m : List Value}, valEqL l m = true → LEq l m
  | [], [], _ => .refl _
  | a :: l, b :: m, h => by
    simp only [valEqL, Bool.and_eq_true] at h
    exact .cons (valEq1_t h.1) (valEqL_t h.2)
  | [], _ :: _, h => by cases h
  | _ :: _, [], h => by cases h
theorem valEq_t {a b : Value} (h : valEq a b = true) : VEq a b := by
  unfold valEq at h
  split at h
  · exact .agg (valEqL_t h)
  · exact .tup (valEqL_t h)
  · exact valEq1_t h

/-! ### Guards and operands, plainly -/
noncomputable def wantedA (g : Option (Pos × Bool)) (t : PT) : Bool := guardK g t true false
def opdA (t : PT) : Opd → Value
  | .t p => t.get p
  | .c v => v
theorem guardK_eq (g : Option (Pos × Bool)) (t : PT) (yes no : Bool) : guardK g t yes no = bif wantedA g t then yes else no := by
  cases g with
  | none => rfl
  | some pw =>
    obtain ⟨p, want⟩ := pw
    show PT.getK p t (guard1 want yes no) = bif PT.getK p t (guard1 want true false) then yes else no
    rw [PT.getK_eq, PT.getK_eq]
    unfold guard1
    split
    · cases eqBB _ want <;> rfl
    · rfl
theorem opdK_eq (o : Opd) (t : PT) (k : Value → Bool) : opdK o t k = k (opdA t o) := by
  cases o with
  | t p => exact PT.getK_eq p t k
  | c v => rfl
theorem argsK_eq (t : PT) : ∀ (l : List Opd) (k : List Value → Bool), argsK l t k = k (l.map (opdA t))
  | [], k => rfl
  | o :: l, k => by
    show opdK o t (fun v => argsK l t fun vs => k (v :: vs)) = _
    rw [opdK_eq, argsK_eq t l]
    rfl
theorem putD_eq (d : Option Pos) (s : St) (v : Value) (h : AH) (k : St → Bool) : putD d s v h k = k ⟨match d with | none => s.tm | some p => s.tm.set p v, s.df, s.rc, h⟩ := by
  cases d with
  | none => rfl
  | some p => exact PT.setK_eq p s.tm v _

/-! ### Blocks that are made -/
/-- what a new block's pointer looks like -/
def Prim.made (p : Prim) (b : Nat) : Value := match p with
  | .buildSlice _ n _ _ => .slice (some ⟨b, 0, none⟩) n n
  | _ => mkP b 0

theorem fillK_det : ∀ (ps : List (Nat × Nat)) (l vs : List Value) (k : List Value → Bool), fillK l ps vs k = true → ∃ m, k m = true ∧ ∀ k2, k2 m = true → fillK l ps vs k2 = true := by
  intro ps l vs k h
  have hD := D_fillK (ps := ps) (l := l) (vs := vs) (X := fun m h k => k (.agg ⟨m⟩) h) (fun m => D_pure _)
  obtain ⟨v, h1, h2⟩ := hD ⟨0, .e⟩ (fun v _ => match v with | .agg ⟨m⟩ => k m | _ => false) h
  cases v with
  | agg a =>
    obtain ⟨m⟩ := a
    exact ⟨m, h1, fun k2 hk => h2 ⟨0, .e⟩ (fun v _ => match v with | .agg ⟨m⟩ => k2 m | _ => false) (HLe.refl _) hk⟩
  | _ => cases h1
end Go.Ve
/- VEval, part 23: operations that make a block, apart from where it comes to lie. No condition. -/
namespace Go.Ve
open Go.RowKit
section
variable {P : Program} {w0 w : World} {φ : Phi} {h : AH} {ρ : Operand → Value} {o : Oper} {vs : List Value}

/-- this is what a block made of these holds -/
def Fresh (p : Prim) (vs : List Value) (ty : TypeId) (l : List Value) : Prop := ∀ k2 : TypeId → List Value → Bool, k2 ty l = true → p.fresh vs k2 = true

theorem fresh_det {p : Prim} {k : TypeId → List Value → Bool} (e : p.fresh vs k = true) : ∃ ty l, k ty l = true ∧ Fresh p vs ty l := by
  cases p with
  | alloc ty zero =>
    obtain ⟨rfl, e1⟩ := a0_t (show a0 vs (k ty zero) = true from e)
    exact ⟨ty, zero, e1, fun k2 hk => hk⟩
  | box ty =>
    obtain ⟨v, rfl, e1⟩ := a1_t (show a1 vs (fun v => k ty (cellsOf v)) = true from e)
    exact ⟨ty, cellsOf v, e1, fun k2 hk => hk⟩
  | buildSlice ty n cells places =>
    obtain ⟨m, e1, e2⟩ := fillK_det _ _ _ _ (show fillK cells places vs (fun l => k ty l) = true from e)
    exact ⟨ty, m, e1, fun k2 hk => e2 (fun l => k2 ty l) hk⟩
  | _ => cases e

theorem makes_t {p : Prim} (hm : p.makes = true) {k : KV} (e : p.ev vs h k = true) : ∃ ty l c ob', Fresh p vs ty l ∧ (∀ v ∈ l, oneCell v = true) ∧ (∀ j v, l[j]? = some v → c.get j = some v) ∧ h.ob.IsSet h.nx (some (.cells 0 l.length ty true c)) ob' ∧ k (p.made h.nx) ⟨h.nx + 1, ob'⟩ = true := by
  cases p with
  | alloc ty zero =>
    obtain ⟨rfl, e1⟩ := a0_t (show a0 vs _ = true from e)
    obtain ⟨h1, c, ob', h2, h3, h4⟩ := newCells_t e1
    exact ⟨ty, zero, c, ob', fun k2 hk => hk, h1, h2, h3, h4⟩
  | box ty =>
    obtain ⟨v, rfl, e1⟩ := a1_t (show a1 vs _ = true from e)
    obtain ⟨h1, c, ob', h2, h3, h4⟩ := newCells_t e1
    exact ⟨ty, cellsOf v, c, ob', fun k2 hk => hk, h1, h2, h3, h4⟩
  | buildSlice ty n cells places =>
    obtain ⟨m, e1, e2⟩ := fillK_det _ _ _ _ (show fillK cells places vs _ = true from e)
    obtain ⟨h1, c, ob', h2, h3, h4⟩ := newCells_t e1
    exact ⟨ty, m, c, ob', fun k2 hk => e2 (fun l => k2 ty l) hk, h1, h2, h3, h4⟩
  | _ => cases hm

theorem cOp_makes {p : Prim} {xs : List Operand} (hc : cOp P o = some (.prim p, xs)) (hm : p.makes = true) :
    (∃ ty z, o.op = .alloc ty ∧ zeroOf P ty = some z ∧ p = .alloc ty z.cells.toList ∧ xs = []) ∨ (∃ ty x, o.op = .box ty x ∧ p = .box ty ∧ xs = [x]) ∨
    (∃ t e' n s parts z, o.op = .buildSlice t n parts ∧ P.underlying t = some (.slice e') ∧ zeroOf P e' = some z ∧ szOf P e' = some s ∧ n * s ≤ 65536 ∧ z.cells.size = s ∧ 0 < s ∧
      p = .buildSlice e' n (repC n z.cells.toList) (parts.toList.map fun p => (p.1 * s, s)) ∧ xs = parts.toList.map (·.2)) := by
  cases hop : o.op <;> simp only [cOp, hop] at hc
  case alloc ty =>
    split at hc
    · rename_i z hz; cases hc; exact .inl ⟨ty, z, rfl, hz, rfl, rfl⟩
    · cases hc
  case box ty x => cases hc; exact .inr (.inl ⟨ty, x, rfl, rfl, rfl⟩)
  case buildSlice t len parts =>
    split at hc
    · rename_i e' hu
      split at hc
      · rename_i s z hs hz
        split at hc
        · rename_i hg
          cases hc
          simp only [Bool.and_eq_true, decide_eq_true_eq, beq_iff_eq] at hg
          exact .inr (.inr ⟨t, e', len, s, parts, z, rfl, hu, hz, hs, hg.1.1, hg.1.2, hg.2, rfl, rfl⟩)
        · cases hc
      · cases hc
    · cases hc
  all_goals ((repeat' split at hc) <;> first | (cases hc; done) | (cases hc; cases hm; done) | (cases hc; unfold mkBuild at hm; split at hm <;> cases hm))

theorem made_real {p : Prim} {xs : List Operand} {ty : TypeId} {l : List Value} (hc : cOp P o = some (.prim p, xs)) (hm : p.makes = true) (hv : LR φ vs (xs.map ρ)) (hf : Fresh p vs ty l) :
    ∃ l', LR φ l l' ∧ (execOp ρ o).run P w = .ok (.value (p.made w.heap.size)) (w.alloc (.cells l'.toArray ty)) := by
  classical
  have hd := hf (fun ty' l' => decide (ty' = ty ∧ l' = l)) (by simp)
  rcases cOp_makes hc hm with ⟨ty', z, ho, hz, rfl, rfl⟩ | ⟨ty', x, ho, rfl, rfl⟩ | ⟨t, e', n, s, parts, z, ho, hu, hz, hs, hle, hzs, h0, rfl, rfl⟩
  · obtain ⟨rfl, e1⟩ := a0_t (show a0 vs _ = true from hd)
    obtain ⟨rfl, rfl⟩ : ty' = ty ∧ z.cells.toList = l := by simpa using e1
    obtain ⟨i, hi, hz, hok⟩ := zeroOf_t hz
    refine ⟨z.cells.toList, VR.cells (okC_VR hok), ?_⟩
    simp [execOp, ho, Instr.alloc, run_zero' hi hz, newVar, newRow, World.alloc_eq, Prim.made, mkP]
  · obtain ⟨v, rfl, e1⟩ := a1_t (show a1 vs (fun v => decide (ty' = ty ∧ cellsOf v = l)) = true from hd)
    obtain ⟨rfl, rfl⟩ : ty' = ty ∧ cellsOf v = l := by simpa using e1
    obtain ⟨a', ha, hr⟩ := hv.one
    simp at ha; subst ha
    rw [cellsOf_eq]
    refine ⟨_, VR.cells hr, ?_⟩
    simp [execOp, ho, Instr.box, newVar, newRow, World.alloc_eq, Prim.made, mkP]
  · obtain ⟨i, hi, hz', hok⟩ := zeroOf_t hz
    obtain ⟨i2, hi2, hs2⟩ := szOf_t hs
    rw [hi] at hi2; cases hi2
    subst hs2
    have hpl : (parts.map fun (i, x) => (i, ρ x)).toList.map (fun p => some (p.1 * i.size, i.size)) = (parts.toList.map fun p => (p.1 * i.size, i.size)).map some := by simp [Function.comp_def]
    have hvl : LR φ vs ((parts.map fun (i, x) => (i, ρ x)).toList.map (·.2)) := by simpa [Function.comp_def] using hv
    obtain ⟨r, r', q1, q2, q3⟩ := fillK_t (place := fun j => some (j * i.size, i.size)) (show fillK _ _ vs (fun l' => decide (e' = ty ∧ l' = l)) = true from hd) (LR.of_app (VR.cells (okC_VR (φ := φ) hok)) n) hvl hpl
    obtain ⟨rfl, rfl⟩ : e' = ty ∧ r = l := by simpa using q1
    have hmk : ((Array.range (n * i.size)).map fun j => z.cells[j % z.cells.size]!) = (repC n z.cells.toList).toArray := by
      apply Array.ext'
      have := madeCells_eq z.cells (by omega) n
      rw [← hzs]
      simpa [madeCells] using this
    have q3' : Instr.fill (fun j => some (j * i.size, i.size)) (repC n z.cells.toList).toArray (List.map (fun x => (x.fst, ρ x.snd)) parts.toList) = some r'.toArray := by simpa using q3
    refine ⟨r', q2, ?_⟩
    have hbig : ¬ (16777216 < n * i.size) := by omega
    simp only [execOp, ho, Instr.buildSlice, Sem.run_bind, run_underlying hu, Result.andThen_ok, run_size' hi]
    by_cases hn0 : n * i.size = 0
    · have hz0 : ((Array.range (n * i.size)).map fun j => (#[] : Array Value)[j % (#[] : Array Value).size]!) = (repC n z.cells.toList).toArray := by
        rw [← hmk, hn0]; simp [Array.range_zero']
      simp [hbig, hn0]
      simp [hn0] at hz0
      rw [hz0]
      rw [q3']
      simp [newRow, World.alloc_eq, Prim.made]
    · simp [hbig, hn0, run_zero' hi hz']
      rw [hmk, q3']
      simp [newRow, World.alloc_eq, Prim.made]

theorem made_VR {p : Prim} {xs : List Operand} (hc : cOp P o = some (.prim p, xs)) (hm : p.makes = true) (f B n : Nat) : VR (φ.put f (.live B 0 n)) (p.made f) (p.made B) := by
  rcases cOp_makes hc hm with ⟨ty', z, ho, hz, rfl, rfl⟩ | ⟨ty', x, ho, rfl, rfl⟩ | ⟨t, e', n', s, parts, z, ho, hu, hz, hs, hle, hzs, h0, rfl, rfl⟩
  · exact PR.newPtr
  · exact PR.newPtr
  · refine .sl _ _ _ _ _ (by simp [Phi.put]) (.inl ⟨by unfold unk; have : n' ≤ n' * s := Nat.le_mul_of_pos_right n' h0; omega, rfl, Nat.le_refl _, fun _ b d m hl => ?_⟩)
    simp only [Phi.put_same] at hl
    cases hl
    exact ⟨rfl, rfl, rfl⟩

theorem made_blockOf {p : Prim} (b : Nat) (k : Nat → Bool) : blockOf (p.made b) k = k b := by
  unfold Prim.made
  split <;> rfl
end
end Go.Ve
/- VEval, part 24: a region that draws its order: what its checks say. No condition. -/
namespace Go.Ve
open Go.RowKit
section
variable {P : Program} {w0 w : World} {φ : Phi} {nt : Nat} {ops : Array Oper} {as : Array AOp}

theorem mapM_get {α β : Type} {f : α → Option β} : ∀ {xs : List α} {ys : List β}, xs.mapM f = some ys → ys.length = xs.length ∧ ∀ (i : Nat) (x : α), xs[i]? = some x → ∃ y, ys[i]? = some y ∧ f x = some y := by
  intro xs
  induction xs with
  | nil => intro ys h; simp at h; subst h; exact ⟨rfl, fun i x hx => by simp at hx⟩
  | cons a xs ih =>
    intro ys h
    rw [List.mapM_cons] at h
    cases ha : f a with
    | none => simp [ha] at h
    | some b =>
      cases hs : xs.mapM f with
      | none => simp [ha, hs] at h
      | some bs =>
        simp [ha, hs] at h
        subst h
        obtain ⟨h1, h2⟩ := ih hs
        refine ⟨by simp [h1], fun i x hx => ?_⟩
        cases i with
        | zero => simp at hx; subst hx; exact ⟨b, by simp, ha⟩
        | succ i => simp at hx; obtain ⟨y, h3, h4⟩ := h2 i x hx; exact ⟨y, by simpa using h3, h4⟩

/-- the compiled operations belong to the operations -/
structure AsR (P : Program) (nt : Nat) (ops : Array Oper) (as : Array AOp) : Prop where
  size : as.size = ops.size
  get : ∀ (i : Nat) (o : Oper), ops[i]? = some o → ∃ ao, as[i]? = some ao ∧ cOper P nt ops o = some ao

theorem asR_of {l : List AOp} (h : cOpers P nt ops = some l) : AsR P nt ops l.toArray := by
  obtain ⟨h1, h2⟩ := mapM_get h
  refine ⟨by simpa using h1, fun i o ho => ?_⟩
  obtain ⟨y, h3, h4⟩ := h2 i o (by simpa using ho)
  exact ⟨y, by simpa using h3, h4⟩

theorem AsR.op (h : AsR P nt ops as) {i : Nat} {ao : AOp} (ha : as[i]? = some ao) : ∃ o, ops[i]? = some o ∧ cOper P nt ops o = some ao := by
  have hlt : i < ops.size := by rw [← h.size]; exact (Array.getElem?_eq_some_iff.1 ha).1
  obtain ⟨ao', h1, h2⟩ := h.get i ops[i] (by simp [hlt])
  rw [ha] at h1; cases h1
  exact ⟨ops[i], by simp [hlt], h2⟩
theorem AsR.lt (h : AsR P nt ops as) {i : Nat} {ao : AOp} (ha : as[i]? = some ao) : i < ops.size := by rw [← h.size]; exact (Array.getElem?_eq_some_iff.1 ha).1

def dstA (as : Array AOp) (j : Nat) : Option Pos := (as[j]?).bind (·.dst)

theorem hasPos_iff {l : List Pos} {p : Pos} : hasPos l p = true ↔ p ∈ l := by
  unfold hasPos
  rw [List.any_eq_true]
  constructor
  · rintro ⟨x, h1, h2⟩; rw [Pos.beq_iff.1 h2]; exact h1
  · intro h; exact ⟨p, h, Pos.beq_iff.2 rfl⟩

theorem slots1 (hr : AsR P nt ops as) (h : slotsOk ops as = true) {i j : Nat} {d : Pos} (hi : dstA as i = some d) (hj : dstA as j = some d) : i = j := by
  unfold dstA at hi hj
  cases hai : as[i]? with
  | none => rw [hai] at hi; cases hi
  | some ai =>
    cases haj : as[j]? with
    | none => rw [haj] at hj; cases hj
    | some aj =>
      have h1 := List.all_eq_true.1 h j (List.mem_range.2 (hr.lt haj))
      rw [hj] at h1
      have h2 := List.all_eq_true.1 h1 i (List.mem_range.2 (hr.lt hai))
      simp only [hai] at h2
      rw [hai] at hi
      have hi' : ai.dst = some d := hi
      simp only [hi', Bool.and_eq_true, Bool.or_eq_true, beq_iff_eq] at h2
      rcases h2.1 with h3 | h3
      · exact h3
      · rw [Pos.beq_iff.2 rfl] at h3; cases h3

theorem slots2 (hr : AsR P nt ops as) (h : slotsOk ops as = true) {i j : Nat} {a : AOp} {d : Pos} (hi : as[i]? = some a) (hd : d ∈ a.reads) (hj : dstA as j = some d) : i = j ∨ j ∈ befsAt ops i ∨ i ∈ befsAt ops j := by
  cases haj : as[j]? with
  | none => unfold dstA at hj; rw [haj] at hj; cases hj
  | some aj =>
    have h1 := List.all_eq_true.1 h j (List.mem_range.2 (hr.lt haj))
    unfold dstA at hj
    rw [hj] at h1
    have h2 := List.all_eq_true.1 h1 i (List.mem_range.2 (hr.lt hi))
    simp only [hi, Bool.and_eq_true, Bool.or_eq_true, beq_iff_eq, hasPos_iff.2 hd, Bool.not_true, Bool.false_eq_true, false_or, List.contains_iff_mem] at h2
    rcases h2.2 with (h3 | h3) | h3
    · exact .inl h3
    · exact .inr (.inl h3)
    · exact .inr (.inr h3)

theorem anti_of (hr : AsR P nt ops as) {i j : Nat} {a : AOp} {d : Pos} (hi : as[i]? = some a) (hd : d ∈ a.reads) (hj : dstA as j = some d) (hn : j ∉ befsAt ops i) : actAt ops as j = true := by
  unfold dstA at hj
  cases haj : as[j]? with
  | none => rw [haj] at hj; cases hj
  | some aj =>
    unfold actAt
    rw [haj]
    have : antiAt ops as j = true := by
      unfold antiAt
      rw [hj]
      refine List.any_eq_true.2 ⟨i, List.mem_range.2 (hr.lt hi), ?_⟩
      simp only [hi, hasPos_iff.2 hd, Bool.true_and, Bool.not_eq_true', List.contains_eq_mem, decide_eq_false_iff_not]
      exact hn
    simp [this]

theorem act_false {j : Nat} (h : actAt ops as j = false) : ∃ a d, as[j]? = some a ∧ a.act.acts = false ∧ a.dst = some d := by
  unfold actAt at h
  cases haj : as[j]? with
  | none => rw [haj] at h; cases h
  | some a =>
    rw [haj] at h
    simp only [Bool.or_eq_false_iff] at h
    cases hd : a.dst with
    | none => rw [hd] at h; simp at h
    | some d => exact ⟨a, d, rfl, h.1.1, hd⟩
theorem acts_false {a : Act1} (h : a.acts = false) : ∃ p, a = .prim p ∧ p.acts = false := by
  cases a with
  | prim p => exact ⟨p, rfl, h⟩
  | _ => cases h

/-! ### Orders -/
inductive Topo (ops : Array Oper) : List Nat → Prop where
  | nil : Topo ops []
  | cons (i : Nat) (l : List Nat) (h1 : i ∉ l) (h2 : ∀ p ∈ befsAt ops i, p ∈ l) (hl : Topo ops l) : Topo ops (i :: l)

theorem Topo.closed {l : List Nat} (h : Topo ops l) : ∀ j ∈ l, ∀ p ∈ befsAt ops j, p ∈ l := by
  induction h with
  | nil => intro j hj; cases hj
  | cons i l h1 h2 hl ih =>
    intro j hj p hp
    rcases List.mem_cons.1 hj with rfl | hj
    · exact List.mem_cons_of_mem _ (h2 p hp)
    · exact List.mem_cons_of_mem _ (ih j hj p hp)

/-- among the unlisted there is one of which all that comes ahead is listed -/
theorem Topo.first {l : List Nat} (h : Topo ops l) {u : Nat → Bool} : (∃ x ∈ l, u x = true) → ∃ r ∈ l, u r = true ∧ ∀ p ∈ befsAt ops r, u p = false := by
  induction h with
  | nil => rintro ⟨x, hx, _⟩; cases hx
  | cons i l h1 h2 hl ih =>
    rintro ⟨x, hx, hu⟩
    by_cases hex : ∃ y ∈ l, u y = true
    · obtain ⟨r, q1, q2, q3⟩ := ih hex
      exact ⟨r, List.mem_cons_of_mem _ q1, q2, q3⟩
    · rcases List.mem_cons.1 hx with rfl | hx
      · refine ⟨x, List.mem_cons_self, hu, fun p hp => ?_⟩
        cases hup : u p with
        | false => rfl
        | true => exact absurd ⟨p, h2 p hp, hup⟩ hex
      · exact absurd ⟨x, hx, hu⟩ hex

theorem closeF_sub {good : Nat → Prop} (hg : ∀ j, good j → ∀ p ∈ befsAt ops j, good p) : ∀ (done S : List Nat), (∀ j ∈ S, good j) → ∀ j ∈ closeF ops S done, good j := by
  intro done
  induction done with
  | nil => intro S hS j hj; exact hS j hj
  | cons i done ih =>
    intro S hS j hj
    unfold closeF at hj
    split at hj
    · rename_i hc
      have hi := hS i (by simpa using hc)
      exact ih _ (fun q hq => by
        rcases List.mem_append.1 hq with hq | hq
        · exact hg i hi q hq
        · exact hS q hq) j hj
    · exact ih _ hS j hj

theorem chksOf_t {e : Env} {s : St} {k : KS} {rec : Task → Bool} {r : List DOp} : ∀ {late : List Nat} {cs : List DOp}, chksOf as late = some cs → drawK rec (cs ++ r) e s k = true → (∀ j ∈ late, ∃ a, as[j]? = some a ∧ chkK a s = true) ∧ drawK rec r e s k = true := by
  intro late
  induction late with
  | nil => intro cs hc h; cases hc; exact ⟨fun j hj => (by cases hj), h⟩
  | cons j late ih =>
    intro cs hc h
    unfold chksOf at hc
    split at hc
    · rename_i a r' ha hr
      cases hc
      obtain ⟨h1, h2⟩ := iff_t (show iff (chkK a s) (drawK rec (r' ++ r) e s k) = true from h)
      obtain ⟨h3, h4⟩ := ih hr h2
      refine ⟨fun i hi => ?_, h4⟩
      rcases List.mem_cons.1 hi with rfl | hi
      · exact ⟨a, ha, h1⟩
      · exact h3 i hi
    · cases hc
end
end Go.Ve
/- VEval, part 25: a region that draws its order: an operation that the plan has carried out and the machine has not yet. No condition. -/
namespace Go.Ve
open Go.RowKit
section
variable {P : Program} {w0 w : World} {φ : Phi} {nt : Nat} {ops : Array Oper} {as : Array AOp} {s : St} {b : Frame} {cs0 cs : List Frame} {a : Act} {o : Oper} {ao : AOp} {d : Pos} {N : Nat}

/-- An operation that the plan has carried out would give now what its slot holds; a block it makes nothing stands for yet. -/
inductive Prom (N : Nat) (s : St) (φ : Phi) (ao : AOp) (d : Pos) : Prop where
  | off (h : wantedA ao.guard s.tm = false) (hu : s.tm.get d = undef)
  | val (p : Prim) (h : wantedA ao.guard s.tm = true) (ha : ao.act = .prim p) (hac : p.acts = false) (hm : p.makes = false) (v : Value) (hv : VEq v (s.tm.get d))
      (hd : ∀ h2 k2, HLe s.h h2 → k2 v h2 = true → p.ev (ao.args.map (opdA s.tm)) h2 k2 = true)
  | made (p : Prim) (h : wantedA ao.guard s.tm = true) (ha : ao.act = .prim p) (hm : p.makes = true) (f : Nat) (ty : TypeId) (l m : List Value) (c : NT Value) (hf : Fresh p (ao.args.map (opdA s.tm)) ty l)
      (hs : s.tm.get d = p.made f) (ho : s.h.ob.get f = some (.cells 0 l.length ty true c)) (hc : ∀ (j : Nat) (v : Value), m[j]? = some v → c.get j = some v) (hlm : LEq l m) (hlen : m.length = l.length) (hφ : φ f = none) (hn : f < s.h.nx) (hN : N ≤ f)

/-- the block of one that is made -/
def MadeAt (s : St) (ao : AOp) (d : Pos) (f : Nat) : Prop := ∃ p, ao.act = .prim p ∧ p.makes = true ∧ wantedA ao.guard s.tm = true ∧ s.tm.get d = p.made f

theorem made_inj {p q : Prim} {f g : Nat} (h : p.made f = q.made g) : f = g := by
  unfold Prim.made mkP at h
  split at h <;> split at h <;> first | (cases h; rfl) | cases h

theorem guard_real {i : Nat} (hc : cOper P nt ops o = some ao) (hr : ∀ p ∈ ao.reads, VR φ (s.tm.get p) (a.tmps.getD p.un undef)) : Region.wanted o (yielded ops a.tmps) = wantedA ao.guard s.tm := by
  obtain ⟨act, xs, args, h1, h2, rfl, rfl, h4, h5⟩ := cOper_t hc
  rcases h5 with ⟨g1, g2⟩ | ⟨g, want, t, g1, g2, g3⟩
  · rw [g2]; simp [Region.wanted, g1]; rfl
  · have hp : VR φ (s.tm.get (Pos.of t)) (a.tmps.getD t undef) := by
      have := hr (Pos.of t) (by unfold AOp.reads; rw [g3]; simp)
      rw [Pos.un_of] at this
      exact this
    rw [g3]
    cases hw : wantedA (some (Pos.of t, want)) s.tm with
    | true =>
      rcases guard_sound (φ := φ) (yes := true) (no := false) g1 g2 hp hw with ⟨q, _⟩ | ⟨_, q⟩
      · exact q
      · cases q
    | false =>
      have hw' : guardK (some (Pos.of t, want)) s.tm false true = true := by rw [guardK_eq, hw]; rfl
      rcases guard_sound (φ := φ) g1 g2 hp hw' with ⟨_, q⟩ | ⟨q, _⟩
      · cases q
      · exact q

theorem args_real {xs : List Operand} {ys : List Opd} (hm : xs.mapM cOpd = some ys) (hr : ∀ p, Opd.t p ∈ ys → VR φ (s.tm.get p) (a.tmps.getD p.un undef)) : LR φ (ys.map (opdA s.tm)) (xs.map a.eval) := by
  classical
  obtain ⟨vs, h1, h2⟩ := args_sound (a := a) (s := s) (φ := φ) (k := fun vs => decide (vs = ys.map (opdA s.tm))) hm hr (by rw [argsK_eq]; simp)
  have : vs = ys.map (opdA s.tm) := by simpa using h2
  rw [← this]; exact h1

/-- It is carried out. -/
theorem prom_exec {i : Nat} {rest : List Nat} {todo : List Item} (hc : cOper P nt ops o = some ao) (ho : ops[i]? = some o) (hr : ∀ p ∈ ao.reads, VR φ (s.tm.get p) (a.tmps.getD p.un undef)) (H : HR P w0 φ s.h w) (hp : Prom N s φ ao d) :
    ∃ v' w' φ', Steps P (lone (b.atR a (.inRegion ops (i :: rest) :: todo)) cs w) (lone (b.atR (a.put o.dst v') (.inRegion ops rest :: todo)) cs w') ∧ VR φ' (s.tm.get d) v' ∧ HR P w0 φ' s.h w' ∧ (N ≤ s.h.nx → Ext N φ φ') ∧
      (∀ f, f < s.h.nx → φ f = none → ¬ MadeAt s ao d f → φ' f = none) := by
  classical
  have hg := guard_real (i := i) hc hr
  obtain ⟨act, xs, args, h1, h2, rfl, rfl, h4, h5⟩ := cOper_t hc
  have hargs : LR φ (ao.args.map (opdA s.tm)) (xs.map a.eval) := args_real h2 fun p hp => hr p (by
    unfold AOp.reads
    exact List.mem_append_left _ (List.mem_filterMap.2 ⟨.t p, hp, rfl⟩))
  cases hp with
  | off hw hu =>
    rw [hw] at hg
    refine ⟨undef, w, φ, .one ?_, by rw [hu]; exact VR.undef φ, H, fun _ => Ext.refl _ _, fun f _ h _ => h⟩
    have := stepR_op_skip (P := P) (b := b) (a := a) (k := todo) (cs := cs) (w := w) (ops := ops) (i := i) (rest := rest) (by simp [ho, hg])
    rw [ho] at this
    exact this
  | val p hw ha hac hm v hv hd =>
    rw [hw] at hg
    rw [ha] at h1
    obtain ⟨v', w', u, h', φ', q1, q2, q3, q4, q5, q6⟩ := prim_sound h1 H hargs (hd s.h (fun u h' => decide (u = v ∧ h' = s.h)) (HLe.refl _) (by simp))
    obtain ⟨rfl, rfl⟩ : u = v ∧ h' = s.h := by simpa using q2
    refine ⟨v', w', φ', ?_, (hv _ _).1 q5, q6, fun hN => q3.mono hN, fun f hf h _ => q3.out f hf h⟩
    have hs := semAt_ne (b := b) (a := a) (cOp_prim_ne h1)
    rcases q1 with q1 | ⟨q1, rfl⟩
    · exact .one (stR_value ho hg (by rw [hs]; exact q1))
    · exact .one (stR_skip ho hg (by rw [hs]; exact q1))
  | made p hw ha hm f ty l m c hf hs0 hob hcm hlm hlen hφ hn hN =>
    rw [hw] at hg
    rw [ha] at h1
    obtain ⟨l', hl', hrun⟩ := made_real (w := w) h1 hm hargs hf
    have hml : LR φ m l' := (hlm _ _).1 hl'
    have hlen' : l.length = l'.length := hl'.length
    obtain ⟨H2, hE⟩ := H.newAt (f := f) (h' := s.h) (o' := .cells l'.toArray ty) (d := 0) (n := l'.length) hφ hob (fun _ _ _ => rfl) H.fresh H.top hn N hN (.cells _ _ _ _ _ _ _ _ _ (fun _ => rfl) (Nat.le_refl _) (by simp) fun q _ hq => by
      have hqm : q < m.length := by omega
      obtain ⟨u, hu, hru⟩ := LR.get hml q _ (List.getElem?_eq_getElem hqm)
      exact ⟨m[q], u, hcm q _ (List.getElem?_eq_getElem hqm), by simpa using hu, hru⟩)
    refine ⟨p.made w.heap.size, _, _, .one (stR_value ho hg (by rw [semAt_ne (cOp_prim_ne h1)]; exact hrun)), ?_, H2, fun _ => hE, fun g hg' h hne => ?_⟩
    · rw [hs0]; exact made_VR h1 hm _ _ _
    · have : g ≠ f := fun e => hne ⟨p, ha, hm, hw, by rw [e]; exact hs0⟩
      rw [Phi.put_other _ _ this]; exact h
end
end Go.Ve
/- VEval, part 26: a region that draws its order: what holds between the plan and the machine. No condition. -/
namespace Go.Ve
open Go.RowKit
section
variable {P : Program} {w0 w : World} {φ : Phi} {nt : Nat} {ops : Array Oper} {as : Array AOp} {s : St} {b : Frame} {cs0 cs : List Frame} {a : Act} {N : Nat} {done pend : List Nat} {L : Array Bool}

structure Inv (P : Program) (w0 : World) (N nt : Nat) (ops : Array Oper) (as : Array AOp) (b : Frame) (cs0 : List Frame) (done pend : List Nat) (L : Array Bool) (φ : Phi) (s : St) (cs : List Frame) (a : Act) (w : World) : Prop where
  size : L.size = ops.size
  sub : ∀ j, L.getD j false = true → j ∈ done
  late : ∀ j ∈ done, L.getD j false = false → j ∈ pend
  pendok : ∀ j ∈ pend, actAt ops as j = false ∧ j ∈ done
  closed : ∀ j, L.getD j false = true → ∀ p ∈ befsAt ops j, L.getD p false = true
  topo : Topo ops done
  lt : ∀ j ∈ done, j < ops.size
  sq : SQ P w0 φ s b cs0 cs a w
  tsz : nt ≤ a.tmps.size
  slots : ∀ p : Pos, (∀ j ∈ done, L.getD j false = false → dstA as j ≠ some p) → VR φ (s.tm.get p) (a.tmps.getD p.un undef)
  prom : ∀ j ∈ done, L.getD j false = false → ∀ (ao : AOp) (d : Pos), as[j]? = some ao → ao.dst = some d → Prom N s φ ao d
  dist : ∀ i ∈ done, ∀ j ∈ done, L.getD i false = false → L.getD j false = false → i ≠ j → ∀ (ao ao' : AOp) (d d' : Pos) (f : Nat), as[i]? = some ao → as[j]? = some ao' → ao.dst = some d → ao'.dst = some d' → MadeAt s ao d f → MadeAt s ao' d' f → False
  nx : N ≤ s.h.nx

theorem Inv.reads (I : Inv P w0 N nt ops as b cs0 done pend L φ s cs a w) (hr : AsR P nt ops as) (hs : slotsOk ops as = true) {i : Nat} {ao : AOp} (hi : as[i]? = some ao) (hb : ∀ p ∈ befsAt ops i, L.getD p false = true) (hact : i ∈ done → actAt ops as i = false) (p : Pos) (hp : p ∈ ao.reads) :
    VR φ (s.tm.get p) (a.tmps.getD p.un undef) := by
  refine I.slots p fun j hj hul hdst => ?_
  by_cases hjb : j ∈ befsAt ops i
  · rw [hb j hjb] at hul; cases hul
  · have hanti := anti_of hr hi hp hdst hjb
    rw [(I.pendok j (I.late j hj hul)).1] at hanti
    cases hanti

theorem getD_set (L : Array Bool) (i j : Nat) (hi : i < L.size) : (L.setIfInBounds i true).getD j false = if j = i then true else L.getD j false := by
  by_cases h : j = i
  · subst h; simp [hi]
  · rw [if_neg h]; exact getD_set_ne false (Ne.symm h)

theorem Prom.ext {N : Nat} {φ' : Phi} {ao : AOp} {d : Pos} (h : Prom N s φ ao d) (hE : ∀ f, f < s.h.nx → φ f = none → MadeAt s ao d f → φ' f = none) : Prom N s φ' ao d := by
  cases h with
  | off h hu => exact .off h hu
  | val p h ha hac hm v hv hd => exact .val p h ha hac hm v hv hd
  | made p h ha hm f ty l m c hf hs ho hc hlm hlen hφ hn hN => exact .made p h ha hm f ty l m c hf hs ho hc hlm hlen (hE f hn hφ ⟨p, ha, hm, h, hs⟩) hn hN

/-- (C) an operation that the plan has carried out is carried out in fact -/
theorem Inv.exec (I : Inv P w0 N nt ops as b cs0 done pend L φ s cs a w) (hr : AsR P nt ops as) (hs : slotsOk ops as = true) {i : Nat} (hi : i ∈ done) (hul : L.getD i false = false) (hb : ∀ p ∈ befsAt ops i, L.getD p false = true) {rest : List Nat} {todo : List Item} :
    ∃ φ' a' w', Steps P (lone (b.atR a (.inRegion ops (i :: rest) :: todo)) cs w) (lone (b.atR a' (.inRegion ops rest :: todo)) cs w') ∧ Ext N φ φ' ∧ Inv P w0 N nt ops as b cs0 done pend (L.setIfInBounds i true) φ' s cs a' w' := by
  have hlt := I.lt i hi
  have hact := (I.pendok i (I.late i hi hul)).1
  obtain ⟨ao, d, hai, hacts, hd⟩ := act_false hact
  obtain ⟨o, ho, hc⟩ := hr.op hai
  have hP := I.prom i hi hul ao d hai hd
  obtain ⟨v', w', φ', h1, h2, h3, h4, h5⟩ := prom_exec (b := b) (cs := cs) (rest := rest) (todo := todo) hc ho (I.reads hr hs hai hb (fun _ => hact)) I.sq.heap hP
  have hE := h4 I.nx
  obtain ⟨act, xs, args, e1, e2, e3, e4, e5, e6⟩ := cOper_t hc
  obtain ⟨dn, hod, hdn, hpos⟩ : ∃ dn, o.dst = some dn ∧ dn < nt ∧ d = Pos.of dn := by
    rcases e5 with ⟨_, q⟩ | ⟨dn, q1, q2, q3⟩
    · rw [q] at hd; cases hd
    · rw [q3] at hd; cases hd; exact ⟨dn, q1, q2, rfl⟩
  have hdun : d.un = dn := by rw [hpos, Pos.un_of]
  have hdst : dstA as i = some d := by unfold dstA; rw [hai]; exact hd
  have hset := fun j => getD_set L i j (by rw [I.size]; exact hlt)
  refine ⟨φ', a.put o.dst v', w', h1, hE, ?_⟩
  refine ⟨by simp [I.size], ?_, ?_, I.pendok, ?_, I.topo, I.lt, ⟨by rw [Act.put_defers']; exact I.sq.df.ext hE, I.sq.rc.ext hE, h3⟩, by rw [hod]; simpa [Act.put] using I.tsz, ?_, ?_, ?_, I.nx⟩
  · intro j hj
    rw [hset] at hj
    split at hj
    · rename_i e; rw [e]; exact hi
    · exact I.sub j hj
  · intro j hj hu
    rw [hset] at hu
    split at hu
    · cases hu
    · exact I.late j hj hu
  · intro j hj p hp
    rw [hset] at hj ⊢
    split at hj
    · rename_i e
      subst e
      split
      · rfl
      · exact hb p hp
    · split
      · rfl
      · exact I.closed j hj p hp
  · intro p hp
    rw [hod]
    by_cases hpd : p = d
    · subst hpd
      have hsz : dn < a.tmps.size := Nat.lt_of_lt_of_le hdn I.tsz
      have : (a.put (some dn) v').tmps.getD p.un undef = v' := by rw [hdun]; simp [Act.put, hsz]
      rw [this]; exact h2
    · have hne : dn ≠ p.un := fun e => hpd (Pos.un_inj (by rw [hdun, e]))
      have : (a.put (some dn) v').tmps.getD p.un undef = a.tmps.getD p.un undef := by
        simp [Act.put, Array.getD_eq_getD_getElem?, Array.getElem?_setIfInBounds_ne hne]
      rw [this]
      refine VR.ext hE (I.slots p fun j hj hu => ?_)
      by_cases hji : j = i
      · rw [hji, hdst]; intro e; cases e; exact hpd rfl
      · exact hp j hj (by rw [hset, if_neg hji]; exact hu)
  · intro j hj hu aj dj haj hdj
    rw [hset] at hu
    split at hu
    · cases hu
    · rename_i hne
      exact (I.prom j hj hu aj dj haj hdj).ext fun f hf hn hM => h5 f hf hn fun hM' => I.dist j hj i hi hu hul hne aj ao dj d f haj hai hdj hd hM hM'
  · intro i1 hi1 j1 hj1 hu1 hu2 hne
    rw [hset] at hu1 hu2
    split at hu1
    · cases hu1
    · split at hu2
      · cases hu2
      · exact I.dist i1 hi1 j1 hj1 hu1 hu2 hne
end
end Go.Ve
/- VEval, part 27: a region that draws its order: the plan goes one on. No condition. -/
namespace Go.Ve
open Go.RowKit
section
variable {P : Program} {w0 w : World} {φ : Phi} {nt : Nat} {ops : Array Oper} {as : Array AOp} {s : St} {b : Frame} {cs0 cs : List Frame} {a : Act} {N : Nat} {done pend : List Nat} {L : Array Bool}

theorem wantedA_congr {ao : AOp} {t t' : PT} (h : ∀ p ∈ ao.reads, t.get p = t'.get p) : wantedA ao.guard t = wantedA ao.guard t' := by
  cases hg : ao.guard with
  | none => rfl
  | some pw =>
    obtain ⟨p, want⟩ := pw
    have := h p (by unfold AOp.reads; rw [hg]; simp)
    show PT.getK p t _ = PT.getK p t' _
    rw [PT.getK_eq, PT.getK_eq, this]
theorem argsA_congr {ao : AOp} {t t' : PT} (h : ∀ p ∈ ao.reads, t.get p = t'.get p) : ao.args.map (opdA t) = ao.args.map (opdA t') := by
  refine List.map_congr_left fun x hx => ?_
  cases x with
  | c v => rfl
  | t p => exact h p (by unfold AOp.reads; exact List.mem_append_left _ (List.mem_filterMap.2 ⟨.t p, hx, rfl⟩))

theorem Prom.state {ao : AOp} {d : Pos} {s' : St} (h : Prom N s φ ao d) (hr : ∀ p ∈ ao.reads, s.tm.get p = s'.tm.get p) (hd : s.tm.get d = s'.tm.get d) (hle : HLe s.h s'.h) (hnx : s.h.nx ≤ s'.h.nx) : Prom N s' φ ao d := by
  have h1 := wantedA_congr hr
  have h2 := argsA_congr hr
  cases h with
  | off h hu => exact .off (h1 ▸ h) (hd ▸ hu)
  | val p h ha hac hm v hv hdt => exact .val p (h1 ▸ h) ha hac hm v (hd ▸ hv) (fun hh k2 hl hk => h2 ▸ hdt hh k2 (hle.trans hl) hk)
  | made p h ha hm f ty l m c hf hs ho hc hlm hlen hφ hn hN => exact .made p (h1 ▸ h) ha hm f ty l m c (h2 ▸ hf) (hd ▸ hs) (hle _ _ ho) hc hlm hlen hφ (Nat.lt_of_lt_of_le hn hnx) hN

theorem MadeAt.state {ao : AOp} {d : Pos} {f : Nat} {s' : St} (h : MadeAt s' ao d f) (hr : ∀ p ∈ ao.reads, s.tm.get p = s'.tm.get p) (hd : s.tm.get d = s'.tm.get d) : MadeAt s ao d f := by
  obtain ⟨p, h1, h2, h3, h4⟩ := h
  exact ⟨p, h1, h2, by rw [wantedA_congr hr]; exact h3, by rw [hd]; exact h4⟩

/-- what the plan's state becomes, for the operations carried out before -/
theorem Inv.grow (I : Inv P w0 N nt ops as b cs0 done pend L φ s cs a w) (hr : AsR P nt ops as) (hs : slotsOk ops as = true) {i : Nat} {ao : AOp} {d : Pos} (hid : i ∉ done) (hb : ∀ p ∈ befsAt ops i, p ∈ done) (hai : as[i]? = some ao) (hd : ao.dst = some d) (hact : actAt ops as i = false)
    {s' : St} {v : Value} (htm : s'.tm = s.tm.set d v) (hdf : s'.df = s.df) (hrc : s'.rc = s.rc) (H : HR P w0 φ s'.h w) (hle : HLe s.h s'.h) (hnx : s.h.nx ≤ s'.h.nx) (hP : Prom N s' φ ao d) (hM : ∀ f, MadeAt s' ao d f → s.h.nx ≤ f) :
    Inv P w0 N nt ops as b cs0 (i :: done) (i :: pend) L φ s' cs a w := by
  have hdst : dstA as i = some d := by unfold dstA; rw [hai]; exact hd
  have hul : L.getD i false = false := by
    cases h : L.getD i false with
    | false => rfl
    | true => exact absurd (I.sub i h) hid
  have get : ∀ p, p ≠ d → s.tm.get p = s'.tm.get p := fun p hp => by rw [htm, PT.get_set, if_neg hp]
  have noread : ∀ j ∈ done, ∀ aj : AOp, as[j]? = some aj → ∀ p ∈ aj.reads, s.tm.get p = s'.tm.get p := fun j hj aj haj p hp => get p fun e => by
    subst e
    by_cases hib : i ∈ befsAt ops j
    · exact hid (I.topo.closed j hj i hib)
    · have := anti_of hr haj hp hdst hib
      rw [hact] at this; cases this
  have nodst : ∀ j ∈ done, ∀ (aj : AOp) (dj : Pos), as[j]? = some aj → aj.dst = some dj → s.tm.get dj = s'.tm.get dj := fun j hj aj dj haj hdj => get dj fun e => by
    subst e
    have hjd : dstA as j = some dj := by unfold dstA; rw [haj]; exact hdj
    have := slots1 hr hs hjd hdst
    subst this
    exact hid hj
  refine ⟨I.size, fun j hj => List.mem_cons_of_mem _ (I.sub j hj), ?_, ?_, I.closed, .cons _ _ hid hb I.topo, ?_, ⟨hdf ▸ I.sq.df, hrc ▸ I.sq.rc, H⟩, I.tsz, ?_, ?_, ?_, Nat.le_trans I.nx hnx⟩
  · intro j hj hu
    rcases List.mem_cons.1 hj with rfl | hj
    · exact List.mem_cons_self
    · exact List.mem_cons_of_mem _ (I.late j hj hu)
  · intro j hj
    rcases List.mem_cons.1 hj with rfl | hj
    · exact ⟨hact, List.mem_cons_self⟩
    · exact ⟨(I.pendok j hj).1, List.mem_cons_of_mem _ (I.pendok j hj).2⟩
  · intro j hj
    rcases List.mem_cons.1 hj with rfl | hj
    · exact hr.lt hai
    · exact I.lt j hj
  · intro p hp
    have hpd : p ≠ d := fun e => hp i List.mem_cons_self hul (by rw [e]; exact hdst)
    rw [← get p hpd]
    exact I.slots p fun j hj hu => hp j (List.mem_cons_of_mem _ hj) hu
  · intro j hj hu aj dj haj hdj
    rcases List.mem_cons.1 hj with rfl | hj
    · rw [hai] at haj; cases haj
      rw [hd] at hdj; cases hdj
      exact hP
    · exact (I.prom j hj hu aj dj haj hdj).state (noread j hj aj haj) (nodst j hj aj dj haj hdj) hle hnx
  · have old : ∀ j ∈ done, L.getD j false = false → ∀ (aj : AOp) (dj : Pos) (f : Nat), as[j]? = some aj → aj.dst = some dj → MadeAt s' aj dj f → f < s.h.nx := by
      intro j hj hu aj dj f haj hdj hm
      obtain ⟨p, q1, q2, q3, q4⟩ := hm.state (noread j hj aj haj) (nodst j hj aj dj haj hdj)
      cases I.prom j hj hu aj dj haj hdj with
      | off h hu => rw [q3] at h; cases h
      | val p' h ha hac hm v hv hdt => rw [ha] at q1; cases q1; rw [hm] at q2; cases q2
      | made p' h ha hm f' ty l m c hf hs0 ho hc hlm hlen hφ hn hN => rw [hs0] at q4; rw [← made_inj q4]; exact hn
    intro i1 hi1 j1 hj1 hu1 hu2 hne a1 a2 d1 d2 f h1 h2 h3 h4 m1 m2
    rcases List.mem_cons.1 hi1 with rfl | hi2 <;> rcases List.mem_cons.1 hj1 with rfl | hj2
    · exact hne rfl
    · rw [hai] at h1; cases h1
      rw [hd] at h3; cases h3
      have q1 := hM f m1
      have q2 := old j1 hj2 hu2 a2 d2 f h2 h4 m2
      omega
    · rw [hai] at h2; cases h2
      rw [hd] at h4; cases h4
      have q1 := hM f m2
      have q2 := old i1 hi2 hu1 a1 d1 f h1 h3 m1
      omega
    · exact I.dist i1 hi2 j1 hj2 hu1 hu2 hne a1 a2 d1 d2 f h1 h2 h3 h4 (m1.state (noread i1 hi2 a1 h1) (nodst i1 hi2 a1 d1 h1 h3)) (m2.state (noread j1 hj2 a2 h2) (nodst j1 hj2 a2 d2 h2 h4))
end
end Go.Ve
/- VEval, part 28: a region that draws its order: the plan carries out an operation that does not act. No condition. -/
namespace Go.Ve
open Go.RowKit
section
variable {P : Program} {w0 w : World} {φ : Phi} {nt : Nat} {ops : Array Oper} {as : Array AOp} {s : St} {b : Frame} {cs0 cs : List Frame} {a : Act} {N : Nat} {done pend : List Nat} {L : Array Bool}

theorem HR.spare {h : AH} (H : HR P w0 φ h w) {o : AO} {ob' : NT AO} (hs : h.ob.IsSet h.nx (some o) ob') : HR P w0 φ ⟨h.nx + 1, ob'⟩ w := by
  have hne : ∀ f, φ f ≠ none → f ≠ h.nx := fun f hf e => hf (by rw [e]; exact H.fresh _ (Nat.le_refl _))
  refine ⟨H.inj, fun f hf => H.fresh f (by have : h.nx + 1 ≤ f := hf; omega), fun f hf => ?_, fun f hf => ?_, fun f bl d n hf => ?_, H.below⟩
  · have : h.nx + 1 ≤ f := hf
    show ob'.get f = none
    rw [hs.2 f (by omega)]; exact H.top f (by omega)
  · show ob'.get f = none
    rw [hs.2 f (hne f (by rw [hf]; simp))]; exact H.dead f hf
  · obtain ⟨o1, o2, q1, q2⟩ := H.obj f bl d n hf
    exact ⟨o1, o2, by show ob'.get f = some o1; rw [hs.2 f (hne f (by rw [hf]; simp))]; exact q1, q2⟩

theorem HLe.spare {h : AH} (H : HR P w0 φ h w) {o : AO} {ob' : NT AO} (hs : h.ob.IsSet h.nx (some o) ob') : HLe h ⟨h.nx + 1, ob'⟩ := fun f o1 ho => by
  have : f ≠ h.nx := fun e => by rw [e, H.top _ (Nat.le_refl _)] at ho; cases ho
  show ob'.get f = some o1
  rw [hs.2 f this]; exact ho

theorem Inv.plan (I : Inv P w0 N nt ops as b cs0 done pend L φ s cs a w) (hr : AsR P nt ops as) (hs : slotsOk ops as = true) {i : Nat} {ao : AOp} (hid : i ∉ done) (hb : ∀ p ∈ befsAt ops i, p ∈ done) (hai : as[i]? = some ao) (hact : actAt ops as i = false)
    {rec : Task → Bool} {e : Env} {fail : KS} {k : St → Bool} (h : opK rec ao e s fail k = true) : ∃ s', k s' = true ∧ Inv P w0 N nt ops as b cs0 (i :: done) (i :: pend) L φ s' cs a w ∧ s.h.nx ≤ s'.h.nx := by
  obtain ⟨ao', d, hai', hacts, hd⟩ := act_false hact
  rw [hai] at hai'; cases hai'
  obtain ⟨p, hp, hpa⟩ := acts_false hacts
  have hdst : dstA as i = some d := by unfold dstA; rw [hai]; exact hd
  have noself : d ∉ ao.reads := fun hm => by
    have hib : i ∉ befsAt ops i := fun h => hid (hb i h)
    have := anti_of hr hai hm hdst hib
    rw [hact] at this; cases this
  have h1 : (bif wantedA ao.guard s.tm then p.ev (ao.args.map (opdA s.tm)) s.h (fun v h => putD (some d) s v h k) else putD (some d) s undef s.h k) = true := by
    have h' : guardK ao.guard s.tm (argsK ao.args s.tm (actK rec ao.act ao.dst e s fail k)) (putD ao.dst s undef s.h k) = true := by cases ao; exact h
    rw [guardK_eq, argsK_eq, hd, hp] at h'
    exact h'
  have keep : ∀ (v : Value) (q : Pos), q ∈ ao.reads → (s.tm.set d v).get q = s.tm.get q := fun v q hq => by rw [PT.get_set, if_neg (fun e => noself (by rw [← e]; exact hq))]
  cases hw : wantedA ao.guard s.tm with
  | false =>
    rw [hw] at h1
    have h2 : putD (some d) s undef s.h k = true := h1
    rw [putD_eq] at h2
    have hw' : wantedA ao.guard (s.tm.set d undef) = false := by rw [wantedA_congr (keep undef)]; exact hw
    refine ⟨_, h2, I.grow hr hs hid hb hai hd hact (v := undef) rfl rfl rfl I.sq.heap (HLe.refl _) (Nat.le_refl _) (.off hw' (by simp [PT.get_set])) (fun f hm => ?_), Nat.le_refl _⟩
    obtain ⟨_, _, _, q3, _⟩ := hm
    have q3' : wantedA ao.guard (s.tm.set d undef) = true := q3
    rw [hw'] at q3'; cases q3'
  | true =>
    rw [hw] at h1
    have h2 : p.ev (ao.args.map (opdA s.tm)) s.h (fun v h => putD (some d) s v h k) = true := h1
    cases hm : p.makes with
    | false =>
      obtain ⟨v, h3, h4⟩ := prim_det p hpa hm _ _ _ h2
      rw [putD_eq] at h3
      have hw' : wantedA ao.guard (s.tm.set d v) = true := by rw [wantedA_congr (keep v)]; exact hw
      refine ⟨_, h3, I.grow hr hs hid hb hai hd hact (v := v) rfl rfl rfl I.sq.heap (HLe.refl _) (Nat.le_refl _) (.val p hw' hp hpa hm v (by simp [PT.get_set]; exact VEq.refl v) (fun hh k2 hl hk => ?_)) (fun f hmm => ?_), Nat.le_refl _⟩
      · show p.ev (ao.args.map (opdA (s.tm.set d v))) hh k2 = true
        rw [argsA_congr (keep v)]
        exact h4 hh k2 hl hk
      · obtain ⟨p', q1, q2, _, _⟩ := hmm
        rw [hp] at q1; cases q1
        rw [hm] at q2; cases q2
    | true =>
      obtain ⟨ty, l, c, ob', h3, h4, h5, h6, h7⟩ := makes_t hm h2
      rw [putD_eq] at h7
      have hw' : wantedA ao.guard (s.tm.set d (p.made s.h.nx)) = true := by rw [wantedA_congr (keep _)]; exact hw
      refine ⟨_, h7, I.grow hr hs hid hb hai hd hact (v := p.made s.h.nx) rfl rfl rfl (I.sq.heap.spare h6) (HLe.spare I.sq.heap h6) (Nat.le_succ _) (.made p hw' hp hm s.h.nx ty l l c ?_ (by simp [PT.get_set]) h6.1 h5 (LEq.refl l) rfl (I.sq.heap.fresh _ (Nat.le_refl _)) (Nat.lt_succ_self _) I.nx) (fun f hmm => ?_), Nat.le_succ _⟩
      · show Fresh p (ao.args.map (opdA (s.tm.set d (p.made s.h.nx)))) ty l
        rw [argsA_congr (keep _)]; exact h3
      · obtain ⟨p', q1, q2, _, q4⟩ := hmm
        have q4' : (s.tm.set d (p.made s.h.nx)).get d = p'.made f := q4
        rw [PT.get_set, if_pos rfl] at q4'
        rw [← made_inj q4']
        exact Nat.le_refl _
end
end Go.Ve
/- VEval, part 29: a region that draws its order: an operation that acts, and what is held against it. No condition. -/
namespace Go.Ve
open Go.RowKit
section
variable {P : Program} {w0 w : World} {φ : Phi} {nt : Nat} {ops : Array Oper} {as : Array AOp} {s : St} {b : Frame} {cs0 cs : List Frame} {a : Act} {N : Nat} {done pend : List Nat} {L : Array Bool}

theorem Prom.chk {ao : AOp} {d : Pos} {s' : St} {φ' : Phi} (h : Prom N s φ ao d) (hd0 : ao.dst = some d) (hr : ∀ p ∈ ao.reads, s.tm.get p = s'.tm.get p) (hd : s.tm.get d = s'.tm.get d) (hE : Ext s.h.nx φ φ') (hnx : s.h.nx ≤ s'.h.nx) (hc : chkK ao s' = true) : Prom N s' φ' ao d := by
  have h1 := wantedA_congr hr
  have h2 := argsA_congr hr
  have hc' : (bif wantedA ao.guard s'.tm then (Act1.casesOn (motive := fun _ => Bool) ao.act (chkPrim ao.dst s' (ao.args.map (opdA s'.tm))) no1 false false false false) else true) = true := by
    have h' : guardK ao.guard s'.tm (argsK ao.args s'.tm fun vs => Act1.casesOn (motive := fun _ => Bool) ao.act (chkPrim ao.dst s' vs) no1 false false false false) true = true := by cases ao; exact hc
    rw [guardK_eq, argsK_eq] at h'
    exact h'
  cases h with
  | off h hu => exact .off (h1 ▸ h) (hd ▸ hu)
  | val p h ha hac hm v hv hdt =>
    rw [h1] at h
    rw [h, ha, hd0] at hc'
    have hc2 : PT.getK d s'.tm (fun v => bif p.makes then p.fresh (ao.args.map (opdA s'.tm)) (chkMade s' v) else p.ev (ao.args.map (opdA s'.tm)) s'.h (chkVal v)) = true := hc'
    rw [PT.getK_eq, hm] at hc2
    obtain ⟨u, q1, q2⟩ := prim_det p hac hm _ _ _ (show p.ev (ao.args.map (opdA s'.tm)) s'.h (chkVal (s'.tm.get d)) = true from hc2)
    exact .val p h ha hac hm u (valEq_t q1) q2
  | made p h ha hm f ty l m c hf hs ho hcc hlm hlen hφ hn hN =>
    rw [h1] at h
    rw [h, ha, hd0] at hc'
    have hc2 : PT.getK d s'.tm (fun v => bif p.makes then p.fresh (ao.args.map (opdA s'.tm)) (chkMade s' v) else p.ev (ao.args.map (opdA s'.tm)) s'.h (chkVal v)) = true := hc'
    rw [PT.getK_eq, hm] at hc2
    obtain ⟨ty', l', q1, q2⟩ := fresh_det (show p.fresh (ao.args.map (opdA s'.tm)) (chkMade s' (s'.tm.get d)) = true from hc2)
    rw [← hd, hs] at q1
    have q1' : blockOf (p.made f) (fun b => cellsK s'.h b fun lo hi ty'' rw c => iff (rw && Nat.beq lo 0 && Nat.beq hi l'.length && Nat.beq ty' ty'') (readK c 0 l'.length fun m => valEqL m l')) = true := q1
    rw [made_blockOf] at q1'
    obtain ⟨lo, hi, ty2, rw2, c2, u1, u2⟩ := cellsK_t q1'
    obtain ⟨u3, u4⟩ := iff_t u2
    obtain ⟨m', u5, u6, u7⟩ := readK_t _ u4
    simp only [Bool.and_eq_true, Nat.beq_eq] at u3
    obtain ⟨⟨⟨e1, e2⟩, e3⟩, e4⟩ := u3
    subst e1; subst e2; subst e3; subst e4
    exact .made p h ha hm f ty' l' m' c2 q2 (hd ▸ hs) u1 (fun j v hj => by have := u7 j v hj; rwa [Nat.zero_add] at this) (fun φ x => (valEqL_t u5 φ x).symm) u6 (hE.out f hn hφ) (Nat.lt_of_lt_of_le hn hnx) hN
end
end Go.Ve
/- VEval, part 30: a region that draws its order: the acting step, and the whole. No condition. -/
namespace Go.Ve
open Go.RowKit
section
variable {P : Program} {w0 w : World} {φ : Phi} {ops : Array Oper} {as : Array AOp} {s : St} {e : Env} {b : Frame} {cs0 cs : List Frame} {a : Act} {N : Nat} {done pend : List Nat} {L : Array Bool}

/-- (B), in fact and in the plan -/
theorem Inv.act (I : Inv P w0 N e.nt ops as b cs0 done pend L φ s cs a w) (hr : AsR P e.nt ops as) (hs : slotsOk ops as = true) (he : EnvR φ e b) {rec : Task → Bool} (hrec : ∀ t, rec t = true → TaskOk P w0 t) {i : Nat} {ao : AOp} (hid : i ∉ done) (hai : as[i]? = some ao) (hbl : ∀ p ∈ befsAt ops i, L.getD p false = true)
    {k : KS} {late : List Nat} (hlate : ∀ j ∈ pend, L.getD j false = false → j ∈ late) (hlp : ∀ j ∈ late, j ∈ pend) {chk r : List DOp} (hch : chksOf as late = some chk) (h : opK rec ao e s k (fun s => drawK rec (chk ++ r) e s k) = true) {rest : List Nat} {todo : List Item} :
    (∃ φ' s' cs' a' w', drawK rec r e s' k = true ∧ Ext N φ φ' ∧ Inv P w0 N e.nt ops as b cs0 (i :: done) late (L.setIfInBounds i true) φ' s' cs' a' w' ∧ Steps P (lone (b.atR a (.inRegion ops (i :: rest) :: todo)) cs w) (lone (b.atR a' (.inRegion ops rest :: todo)) cs' w')) ∨
    Goes P w0 φ N e b cs0 (lone (b.atR a (.inRegion ops (i :: rest) :: todo)) cs w) todo k := by
  obtain ⟨o, ho, hc⟩ := hr.op hai
  have hlt := hr.lt hai
  rcases op_sound (rest := rest) (todo := todo) hrec hc ho I.sq he (I.reads hr hs hai hbl fun hi => absurd hi hid) h with ⟨v, v', s1, φ', w', cs', ds', h1, h2, h3, h4, h5, h6, h7⟩ | ⟨v, v', s1, φ', w', h1, h3, h4, h5, h6, h7⟩
  · left
    rw [putD_eq] at h1
    obtain ⟨hchk, hk⟩ := chksOf_t hch h1
    obtain ⟨act, xs, args, e1, e2, e3, e4, e5, e6⟩ := cOper_t hc
    have hset := fun j => getD_set L i j (by rw [I.size]; exact hlt)
    have hb : ∀ p ∈ befsAt ops i, p ∈ done := fun p hp => I.sub p (hbl p hp)
    have hul : L.getD i false = false := by
      cases hh : L.getD i false with
      | false => rfl
      | true => exact absurd (I.sub i hh) hid
    have get : ∀ p, ao.dst ≠ some p → s.tm.get p = (match ao.dst with | none => s1.tm | some q => s1.tm.set q v).get p := by
      intro p hp
      cases hd : ao.dst with
      | none => simp only; rw [h2]
      | some q =>
        simp only
        rw [PT.get_set, if_neg (fun e => hp (by rw [hd, e])), h2]
    have noread : ∀ j ∈ done, L.getD j false = false → ∀ aj : AOp, as[j]? = some aj → ∀ p ∈ aj.reads, ao.dst ≠ some p := fun j hj hu aj haj p hp hd => by
      have hdi : dstA as i = some p := by unfold dstA; rw [hai]; exact hd
      rcases slots2 hr hs haj hp hdi with rfl | h | h
      · exact hid hj
      · exact hid (I.topo.closed j hj i h)
      · rw [hbl j h] at hu; cases hu
    have nodst : ∀ j ∈ done, ∀ (aj : AOp) (dj : Pos), as[j]? = some aj → aj.dst = some dj → ao.dst ≠ some dj := fun j hj aj dj haj hdj hd => by
      have hdi : dstA as i = some dj := by unfold dstA; rw [hai]; exact hd
      have hjd : dstA as j = some dj := by unfold dstA; rw [haj]; exact hdj
      have := slots1 hr hs hjd hdi
      subst this
      exact hid hj
    refine ⟨φ', _, cs', _, w', hk, h3.mono I.nx, ?_, h7⟩
    refine ⟨by simp [I.size], ?_, ?_, ?_, ?_, .cons _ _ hid hb I.topo, ?_, ⟨by rw [Act.put_defers']; exact h6.df, h6.rc, h6.heap⟩, ?_, ?_, ?_, ?_, Nat.le_trans I.nx h4⟩
    · intro j hj
      rw [hset] at hj
      split at hj
      · rename_i e; rw [e]; exact List.mem_cons_self
      · exact List.mem_cons_of_mem _ (I.sub j hj)
    · intro j hj hu
      rw [hset] at hu
      split at hu
      · cases hu
      · rename_i hne
        rcases List.mem_cons.1 hj with hj | hj
        · exact absurd hj hne
        · exact hlate j (I.late j hj hu) hu
    · intro j hj
      have := I.pendok j (hlp j hj)
      exact ⟨this.1, List.mem_cons_of_mem _ this.2⟩
    · intro j hj p hp
      rw [hset] at hj ⊢
      split at hj
      · rename_i e
        subst e
        split
        · rfl
        · exact hbl p hp
      · split
        · rfl
        · exact I.closed j hj p hp
    · intro j hj
      rcases List.mem_cons.1 hj with rfl | hj
      · exact hlt
      · exact I.lt j hj
    · rcases e5 with ⟨q1, _⟩ | ⟨dn, q1, _, _⟩
      · rw [q1]; exact I.tsz
      · rw [q1]; simpa [Act.put] using I.tsz
    · intro p hp
      have hold : ao.dst ≠ some p → VR φ' (s.tm.get p) (a.tmps.getD p.un undef) := fun hpd => VR.ext h3 (I.slots p fun j hj hu hdj => by
        by_cases hji : j = i
        · subst hji; exact hid hj
        · exact hp j (List.mem_cons_of_mem _ hj) (by rw [hset, if_neg hji]; exact hu) hdj)
      by_cases hpd : ao.dst = some p
      · rcases e5 with ⟨_, q2⟩ | ⟨dn, q1, hdn, q3⟩
        · rw [q2] at hpd; cases hpd
        · rw [q3] at hpd; cases hpd
          have hsz : dn < a.tmps.size := Nat.lt_of_lt_of_le hdn I.tsz
          rw [q1, q3, Pos.un_of]
          have : (({ a with defers := ds' } : Act).put (some dn) v').tmps.getD dn undef = v' := by simp [Act.put, hsz]
          rw [this]
          simp only [PT.get_set, if_true]
          exact h5
      · have hg := get p hpd
        have : (({ a with defers := ds' } : Act).put o.dst v').tmps.getD p.un undef = a.tmps.getD p.un undef := by
          rcases e5 with ⟨q1, _⟩ | ⟨dn, q1, hdn, q3⟩
          · rw [q1]; rfl
          · have hne : dn ≠ p.un := fun e => hpd (by rw [q3]; congr 1; exact Pos.un_inj (by rw [Pos.un_of, e]))
            rw [q1]
            simp [Act.put, Array.getD_eq_getD_getElem?, Array.getElem?_setIfInBounds_ne hne]
        rw [this]
        have key := hold hpd
        rw [hg] at key
        exact key
    · intro j hj hu aj dj haj hdj
      rw [hset] at hu
      split at hu
      · cases hu
      · rename_i hne
        rcases List.mem_cons.1 hj with hj | hj
        · exact absurd hj hne
        · obtain ⟨aj', haj', hck⟩ := hchk j (hlate j (I.late j hj hu) hu)
          rw [haj] at haj'; cases haj'
          exact (I.prom j hj hu aj dj haj hdj).chk hdj (fun p hp => get p (noread j hj hu aj haj p hp)) (get dj (nodst j hj aj dj haj hdj)) h3 h4 hck
    · intro i1 hi1 j1 hj1 hu1 hu2 hne a1 a2 d1 d2 f g1 g2 g3 g4 m1 m2
      rw [hset] at hu1 hu2
      split at hu1
      · cases hu1
      · rename_i n1
        split at hu2
        · cases hu2
        · rename_i n2
          rcases List.mem_cons.1 hi1 with hi2 | hi2
          · exact n1 hi2
          · rcases List.mem_cons.1 hj1 with hj2 | hj2
            · exact n2 hj2
            · exact I.dist i1 hi2 j1 hj2 hu1 hu2 hne a1 a2 d1 d2 f g1 g2 g3 g4 (m1.state (fun p hp => get p (noread i1 hi2 hu1 a1 g1 p hp)) (get d1 (nodst i1 hi2 a1 d1 g1 g3))) (m2.state (fun p hp => get p (noread j1 hj2 hu2 a2 g2 p hp)) (get d2 (nodst j1 hj2 a2 d2 g2 g4)))
  · right
    exact ⟨.pan v, s1, φ', cs, a, w', h1, h3.mono I.nx, Nat.le_trans I.nx h4, h6, ⟨_, v', h5, h7⟩⟩
end
end Go.Ve
/- VEval, part 31: a region that draws its order: whatever the order, the plan is met. Premise: the departure from the text's order is one that the program follows. -/
namespace Go.Ve
open Go.RowKit
section
variable {P : Program} {w0 w : World} {φ : Phi} {ops : Array Oper} {as : Array AOp} {s : St} {e : Env} {b : Frame} {cs0 cs : List Frame} {a : Act} {N : Nat} {done pend : List Nat} {L : Array Bool}

theorem befsAt_mem {o : Oper} {j p : Nat} (ho : ops[j]? = some o) : p ∈ befsAt ops j ↔ ∃ x ∈ o.after, Region.binds .any x = true ∧ x.on = p := by
  unfold befsAt befs
  rw [ho]
  simp only [List.mem_map, List.mem_filter, Array.mem_toList_iff]
  constructor
  · rintro ⟨x, ⟨h1, h2⟩, h3⟩; exact ⟨x, h1, h2, h3⟩
  · rintro ⟨x, h1, h2, h3⟩; exact ⟨x, ⟨h1, h2⟩, h3⟩

theorem ready_iff (hL : L.size = ops.size) {j : Nat} : j ∈ Region.ready .any ops L ↔ j < ops.size ∧ L.getD j false = false ∧ ∀ p ∈ befsAt ops j, L.getD p false = true := by
  rw [mem_ready]
  constructor
  · rintro ⟨h1, o, ho, h2⟩
    have hlt : j < ops.size := (Array.getElem?_eq_some_iff.1 ho).1
    refine ⟨hlt, ?_, fun p hp => ?_⟩
    · have : j < L.size := by omega
      simpa [Array.getD, this] using h1
    · obtain ⟨x, q1, q2, rfl⟩ := (befsAt_mem ho).1 hp
      exact h2 x q1 q2
  · rintro ⟨hlt, h1, h2⟩
    refine ⟨?_, ops[j], by simp [hlt], fun x hx hbx => h2 x.on ((befsAt_mem (by simp [hlt])).2 ⟨x, hx, hbx, rfl⟩)⟩
    have : j < L.size := by omega
    simpa [Array.getD, this] using h1

theorem go_nil {md : Region.Mode} {fuel t : Nat} (h : Region.ready md ops L = []) : Region.linearise.go md ops fuel t L [] = [] := by
  cases fuel with
  | zero => simp [Region.linearise.go]
  | succ fuel =>
    simp only [Region.linearise.go]
    change (match (Region.ready md ops L)[t % (Region.ready md ops L).length]? with
      | some i => Region.linearise.go md ops fuel (t / (Region.ready md ops L).length) (L.setIfInBounds i true) [i]
      | none => [].reverse) = []
    rw [h]; rfl

theorem go_pick {md : Region.Mode} {fuel t : Nat} (h : Region.ready md ops L ≠ []) : ∃ i t', i ∈ Region.ready md ops L ∧ Region.linearise.go md ops (fuel + 1) t L [] = i :: Region.linearise.go md ops fuel t' (L.setIfInBounds i true) [] := by
  have hlen : 0 < (Region.ready md ops L).length := List.length_pos_iff.2 h
  have hlt : t % (Region.ready md ops L).length < (Region.ready md ops L).length := Nat.mod_lt _ hlen
  have hi : (Region.ready md ops L)[t % (Region.ready md ops L).length]? = some (Region.ready md ops L)[t % (Region.ready md ops L).length] := List.getElem?_eq_getElem hlt
  refine ⟨(Region.ready md ops L)[t % (Region.ready md ops L).length], t / (Region.ready md ops L).length, List.getElem_mem hlt, ?_⟩
  conv => lhs; simp only [Region.linearise.go]
  change (match (Region.ready md ops L)[t % (Region.ready md ops L).length]? with
      | some i => Region.linearise.go md ops fuel (t / (Region.ready md ops L).length) (L.setIfInBounds i true) [i]
      | none => [].reverse) = _
  rw [hi]
  simp only []
  rw [linearise_go_acc, List.reverse_singleton, List.singleton_append]

def unl (ops : Array Oper) (L : Array Bool) : Nat := (List.range ops.size).countP fun j => !L.getD j false

theorem countP_set {p q : Nat → Bool} {r : Nat} (h : ∀ j, q j = true → p j = true ∧ j ≠ r) (hpr : p r = true) : ∀ {l : List Nat}, r ∈ l → l.countP q + 1 ≤ l.countP p := by
  have mono : ∀ l : List Nat, l.countP q ≤ l.countP p := fun l => List.countP_mono_left fun x _ hx => (h x hx).1
  intro l
  induction l with
  | nil => intro hm; cases hm
  | cons x l ih =>
    intro hm
    by_cases hx : x = r
    · subst hx
      have hq : q x = false := by
        cases hh : q x with
        | false => rfl
        | true => exact absurd rfl (h x hh).2
      have := mono l
      simp [List.countP_cons, hq, hpr]
      exact this
    · have hm' : r ∈ l := by
        rcases List.mem_cons.1 hm with hm | hm
        · exact absurd hm.symm hx
        · exact hm
      have := ih hm'
      rw [List.countP_cons, List.countP_cons]
      cases hq : q x with
      | false => simp; omega
      | true => rw [(h x hq).1]; simp; omega

theorem unl_set (hL : L.size = ops.size) {i : Nat} (hi : i < ops.size) (hu : L.getD i false = false) : unl ops (L.setIfInBounds i true) + 1 ≤ unl ops L := by
  refine countP_set (r := i) (fun j hj => ?_) (by rw [hu]; rfl) (List.mem_range.2 hi)
  rw [getD_set L i j (by omega)] at hj
  split at hj
  · cases hj
  · rename_i hne; exact ⟨hj, hne⟩

theorem unl_pos {i : Nat} (hi : i < ops.size) (hu : L.getD i false = false) : 0 < unl ops L := List.countP_pos_iff.2 ⟨i, List.mem_range.2 hi, by rw [hu]; rfl⟩

theorem draw_main (hr : AsR P e.nt ops as) (hs : slotsOk ops as = true) {rec : Task → Bool} (hrec : ∀ t, rec t = true → TaskOk P w0 t) {k : KS} {todo : List Item} : ∀ (n : Nat) (order : List Nat) (fuel t : Nat) {done pend : List Nat} {L : Array Bool} {φ : Phi} {s : St} {cs : List Frame} {a : Act} {w : World} {dl : List DOp},
    order.length + fuel ≤ n → Inv P w0 N e.nt ops as b cs0 done pend L φ s cs a w → EnvR φ e b → mkDraw ops as done pend order = some dl → drawK rec dl e s k = true → unl ops L ≤ fuel →
    Goes P w0 φ N e b cs0 (lone (b.atR a (.inRegion ops (Region.linearise.go .any ops fuel t L []) :: todo)) cs w) todo k := by
  intro n
  induction n with
  | zero =>
    intro order fuel t done pend L φ s cs a w dl hn I he hmk hk hu
    have h0 : order = [] := by cases order with | nil => rfl | cons _ _ => simp at hn
    have hf : fuel = 0 := by omega
    subst h0; subst hf
    unfold mkDraw at hmk
    split at hmk
    · rename_i hall
      cases hmk
      have hno : ∀ j, j < ops.size → L.getD j false = true := fun j hj => by
        cases h : L.getD j false with
        | true => rfl
        | false => have := unl_pos hj h; omega
      refine ⟨.normal, s, φ, cs, a, w, hk, Ext.refl _ _, I.nx, ⟨I.sq, I.tsz, fun p => I.slots p fun j hj hu' => ?_⟩, ?_⟩
      · rw [hno j (I.lt j hj)] at hu'; cases hu'
      · simp only [Region.linearise.go, List.reverse_nil]; exact .one stepR_region_end
    · cases hmk
  | succ n ih =>
    intro order fuel t done pend L φ s cs a w dl hn I he hmk hk hu
    -- what is ready is carried out, where the plan has it behind it
    have run : ∀ (i : Nat) (fuel t' : Nat), order.length + fuel ≤ n → i ∈ done → L.getD i false = false → (∀ p ∈ befsAt ops i, L.getD p false = true) → unl ops L ≤ fuel + 1 →
        Goes P w0 φ N e b cs0 (lone (b.atR a (.inRegion ops (i :: Region.linearise.go .any ops fuel t' (L.setIfInBounds i true) []) :: todo)) cs w) todo k := by
      intro i fuel t' hn' hid hul hbl hu'
      obtain ⟨φ', a', w', h1, h2, h3⟩ := I.exec hr hs hid hul hbl (rest := Region.linearise.go .any ops fuel t' (L.setIfInBounds i true) []) (todo := todo)
      have := unl_set I.size (I.lt i hid) hul
      exact (ih order fuel t' hn' h3 (he.ext h2) hmk hk (by omega)).of_steps h2 (Nat.le_refl _) h1
    cases order with
    | nil =>
      by_cases hex : ∃ x ∈ done, (fun j => !L.getD j false) x = true
      · obtain ⟨r, q1, q2, q3⟩ := I.topo.first hex
        have hul : L.getD r false = false := by simpa using q2
        have hrd : r ∈ Region.ready .any ops L := (ready_iff I.size).2 ⟨I.lt r q1, hul, fun p hp => by simpa using q3 p hp⟩
        have hpos := unl_pos (I.lt r q1) hul
        obtain ⟨f', rfl⟩ : ∃ f', fuel = f' + 1 := ⟨fuel - 1, by omega⟩
        obtain ⟨i, t', hi, hgo⟩ := go_pick (fuel := f') (t := t) (List.ne_nil_of_mem hrd)
        rw [hgo]
        obtain ⟨i1, i2, i3⟩ := (ready_iff I.size).1 hi
        have hall := hmk
        unfold mkDraw at hall
        split at hall
        · rename_i hc
          have hid : i ∈ done := by simpa using List.all_eq_true.1 hc i (List.mem_range.2 i1)
          exact run i f' t' (by first | (simp at hn ⊢; omega) | (simp at hn; omega)) hid i2 i3 (by omega)
        · cases hall
      · have hall := hmk
        unfold mkDraw at hall
        split at hall
        · rename_i hc
          cases hall
          have hno : ∀ j ∈ done, L.getD j false = true := fun j hj => by
            cases h : L.getD j false with
            | true => rfl
            | false => exact absurd ⟨j, hj, by simp [h]⟩ hex
          have hrd : Region.ready .any ops L = [] := by
            cases hq : Region.ready .any ops L with
            | nil => rfl
            | cons x l =>
              have hx : x ∈ Region.ready .any ops L := by rw [hq]; exact List.mem_cons_self
              obtain ⟨i1, i2, _⟩ := (ready_iff I.size).1 hx
              have := hno x (by simpa using List.all_eq_true.1 hc x (List.mem_range.2 i1))
              rw [i2] at this; cases this
          rw [go_nil hrd]
          refine ⟨.normal, s, φ, cs, a, w, hk, Ext.refl _ _, I.nx, ⟨I.sq, I.tsz, fun p => I.slots p fun j hj hu' => ?_⟩, .one stepR_region_end⟩
          rw [hno j hj] at hu'; cases hu'
        · cases hall
    | cons i order =>
      have hmk0 := hmk
      unfold mkDraw at hmk
      split at hmk
      · cases hmk
      · rename_i ao hai
        split at hmk
        · rename_i hcond
          simp only [Bool.and_eq_true, Bool.not_eq_true', List.contains_eq_mem, decide_eq_false_iff_not] at hcond
          obtain ⟨hid, hb⟩ := hcond
          have hb' : ∀ p ∈ befsAt ops i, p ∈ done := fun p hp => by simpa using List.all_eq_true.1 hb p hp
          split at hmk
          · rename_i hact
            split at hmk
            · rename_i hothers
              split at hmk
              · rename_i chk r hch hrr
                cases hmk
                have hul : L.getD i false = false := by
                  cases hh : L.getD i false with
                  | false => rfl
                  | true => exact absurd (I.sub i hh) hid
                have hT : Topo ops (i :: done) := .cons _ _ hid hb' I.topo
                obtain ⟨r0, q1, q2, q3⟩ := hT.first (u := fun j => !L.getD j false) ⟨i, List.mem_cons_self, by simp only [hul]; rfl⟩
                have hul0 : L.getD r0 false = false := by simpa using q2
                have hlt0 : r0 < ops.size := by
                  rcases List.mem_cons.1 q1 with rfl | q1
                  · exact hr.lt hai
                  · exact I.lt r0 q1
                have hrd : r0 ∈ Region.ready .any ops L := (ready_iff I.size).2 ⟨hlt0, hul0, fun p hp => by simpa using q3 p hp⟩
                have hpos := unl_pos hlt0 hul0
                obtain ⟨f', rfl⟩ : ∃ f', fuel = f' + 1 := ⟨fuel - 1, by omega⟩
                obtain ⟨i', t', hi, hgo⟩ := go_pick (fuel := f') (t := t) (List.ne_nil_of_mem hrd)
                rw [hgo]
                obtain ⟨i1, i2, i3⟩ := (ready_iff I.size).1 hi
                by_cases hd' : i' ∈ done
                · exact run i' f' t' (by first | (simp at hn ⊢; omega) | (simp at hn; omega)) hd' i2 i3 (by omega)
                · have hii : i' = i := by
                    have := List.all_eq_true.1 hothers i' (List.mem_range.2 i1)
                    simp only [Bool.or_eq_true, List.contains_eq_mem, decide_eq_true_eq, beq_iff_eq, Bool.not_eq_true'] at this
                    rcases this with (h | h) | h
                    · exact absurd h hd'
                    · exact h
                    · have : (befsAt ops i').all done.contains = true := List.all_eq_true.2 fun p hp => by simpa using I.sub p (i3 p hp)
                      rw [this] at h; cases h
                  subst hii
                  have hgood : ∀ j ∈ closeF ops (befsAt ops i') done, L.getD j false = true := closeF_sub (good := fun j => L.getD j false = true) I.closed done _ i3
                  rcases I.act hr hs he hrec hid hai i3 (late := pend.filter fun j => !(closeF ops (befsAt ops i') done).contains j) (fun j hj hu' => by
                    refine List.mem_filter.2 ⟨hj, ?_⟩
                    simp only [Bool.not_eq_true', List.contains_eq_mem, decide_eq_false_iff_not]
                    intro hc
                    rw [hgood j hc] at hu'; cases hu') (fun j hj => (List.mem_filter.1 hj).1) hch hk (rest := Region.linearise.go .any ops f' t' (L.setIfInBounds i' true) []) (todo := todo) with ⟨φ', s', cs', a', w', z1, z2, z3, z4⟩ | z
                  · have := unl_set I.size i1 i2
                    exact (ih order f' t' (by first | (simp at hn ⊢; omega) | (simp at hn; omega)) z3 (he.ext z2) hrr z1 (by omega)).of_steps z2 (Nat.le_refl _) z4
                  · exact z
              · cases hmk
            · cases hmk
          · rename_i hact
            simp only [Option.map_eq_some_iff] at hmk
            obtain ⟨dl', hmk', rfl⟩ := hmk
            obtain ⟨s', z1, z2, z3⟩ := I.plan hr hs hid hb' hai (by simpa using hact) (show opK rec ao e s k (fun s => drawK rec dl' e s k) = true from hk)
            exact ih order fuel t (by first | (simp at hn ⊢; omega) | (simp at hn; omega)) z2 he hmk' z1 hu
        · cases hmk

theorem drawOk_of (hmix : P.follows .mixedOrders = true) (w0 : World) : DrawOk P w0 := by
  intro rec hrec e b cs0 todo k id ops l dl hl hdl φ s cs a w hs he hk
  unfold drawOf at hdl
  split at hdl
  · rename_i hsl
    have hr := asR_of hl
    have hstep := stepR_region_draw (P := P) (b := b) (a := a) (k := todo) (cs := cs) (w := w) (id := id) (ops := ops)
    have hsch : ∀ t, Region.schedule (P.follows .mixedOrders) ops t = Region.linearise.go .any ops ops.size t (Array.replicate ops.size false) [] := fun t => by
      simp [Region.schedule, hmix, Region.linearise]
    rw [hsch] at hstep
    have hfalse : ∀ j, (Array.replicate ops.size false).getD j false = false := fun j => by
      rw [Array.getD_eq_getD_getElem?, Array.getElem?_replicate]; split <;> rfl
    have I : Inv P w0 s.h.nx e.nt ops l.toArray b cs0 [] [] (Array.replicate ops.size false) φ s cs a { w with drawn := w.drawn + 1 } :=
      ⟨by simp, fun j hj => (by rw [hfalse] at hj; cases hj), fun j hj => (by cases hj), fun j hj => (by cases hj), fun j hj => (by rw [hfalse] at hj; cases hj), .nil, fun j hj => (by cases hj),
        ⟨hs.df, hs.rc, hs.heap.world rfl rfl rfl rfl⟩, hs.tm.1, fun p _ => hs.tm.2 p, fun j hj => (by cases hj), fun j hj => (by cases hj), Nat.le_refl _⟩
    refine (draw_main hr hsl hrec _ _ ops.size _ (Nat.le_refl _) I he hdl hk ?_).of_steps (Ext.refl _ _) (Nat.le_refl _) (.one hstep)
    have := List.countP_le_length (p := fun j => !(Array.replicate ops.size false).getD j false) (l := List.range ops.size)
    simpa [unl] using this
  · cases hdl
end
end Go.Ve
/- VEval, part 22: the evaluator is right: what it finds is so. -/
namespace Go.Ve
open Go.RowKit

theorem ev_sound {P : Program} {w0 : World} (hmix : P.follows .mixedOrders = true) {prog : NT AFn} (hprog : ∀ f af, prog.get f = some af → cFn P f = some af) : ∀ (n : Nat) (t : Task), ev prog n t = true → TaskOk P w0 t := by
  intro n
  have hdraw := drawOk_of hmix w0
  induction n with
  | zero => intro t h; cases h
  | succ n ih =>
    intro t h
    rw [ev_succ] at h
    cases t with
    | code ac e s k => exact fun c hc => code_sound hdraw ih c ac e s k hc h
    | call f args h0 k => exact call_sound hprog ih h
    | dcall f args rc h0 k => exact dcall_sound hprog ih h
    | round l args h0 k => exact round_sound ih h
    | leave ds m h0 k => exact leave_sound ih h

/-- nothing is known of the heap -/
theorem HR.bare (P : Program) (w : World) : HR P w (fun _ => none) ⟨0, .e⟩ w :=
  ⟨fun f f' b d d' n n' _ h => (by cases h), fun _ _ => rfl, fun _ _ => rfl, fun f h => (by cases h), fun f b d n h => (by cases h), ⟨rfl, rfl, rfl, Nat.le_refl _, fun _ _ => rfl⟩⟩

/-- Of a call without arguments that the evaluator finds to return true. -/
theorem call_true {P : Program} (hmix : P.follows .mixedOrders = true) {prog : NT AFn} (hprog : ∀ f af, prog.get f = some af → cFn P f = some af) {n : Nat} {f : FuncId} (h : ev prog n (.call f [] ⟨0, .e⟩ fun r _ => match r with | .ret (.bool b) => b | _ => false) = true) (w : World) :
    Calls P f #[] w fun E w' => E = .returned (.bool true) ∧ Below w.heap.size w w' := by
  have hC : CallOk P w f [] ⟨0, .e⟩ (fun r _ => match r with | .ret (.bool b) => b | _ => false) := ev_sound hmix hprog n _ h
  refine Calls.mono (hC.2 (fun _ => none) #[] w .nil (HR.bare P w)) fun E w' hR => ?_
  obtain ⟨r, h', φ', h1, h2, h3, h4, h5⟩ := hR
  cases r with
  | pan v => cases h1
  | ret v =>
    cases v with
    | bool b =>
      have hb : b = true := h1
      subst hb
      obtain ⟨v', rfl, hv⟩ := h5
      exact ⟨by rw [VR.bool_inv hv], h4.below⟩
    | _ => cases h1

/-! ### A table of functions, one by one -/
/-- every entry at o + s * i is as Q says -/
def NT.Holds {α : Type} (Q : Nat → α → Prop) : Nat → Nat → NT α → Prop
  | _, _, .e => True
  | o, s, .n l v r => (∀ a, v = some a → Q o a) ∧ NT.Holds Q (o + s) (s + s) l ∧ NT.Holds Q (o + s + s) (s + s) r
theorem NT.holdsAt {α : Type} {Q : Nat → α → Prop} : ∀ {t : NT α} {o s : Nat}, t.Holds Q o s → ∀ i a, t.get i = some a → Q (o + s * i) a
  | .e, _, _, _, i, a, h => by cases h
  | .n l v r, o, s, ⟨h0, hl, hr⟩, i, a, h => by
    rcases NT.nat_cases i with rfl | ⟨j, rfl⟩ | ⟨j, rfl⟩
    · exact h0 a h
    · rw [NT.get_odd] at h
      have := NT.holdsAt hl j a h
      rwa [show o + s + (s + s) * j = o + s * (2 * j + 1) by rw [Nat.mul_add, Nat.add_mul, Nat.mul_comm 2 j, ← Nat.mul_assoc, Nat.mul_two]; omega] at this
    · rw [NT.get_even] at h
      have := NT.holdsAt hr j a h
      rwa [show o + s + s + (s + s) * j = o + s * (2 * j + 2) by rw [Nat.mul_add, Nat.add_mul, Nat.mul_comm 2 j, ← Nat.mul_assoc, Nat.mul_two]; omega] at this
theorem NT.holds {α : Type} {Q : Nat → α → Prop} {t : NT α} (h : t.Holds Q 0 1) (i : Nat) (a : α) (hi : t.get i = some a) : Q i a := by
  have := NT.holdsAt h i a hi
  rwa [Nat.zero_add, Nat.one_mul] at this
theorem NT.one {α : Type} {Q : α → Prop} {x : α} (h : Q x) : ∀ a, some x = some a → Q a := fun a e => by cases e; exact h
theorem NT.no {α : Type} {Q : α → Prop} : ∀ a, (none : Option α) = some a → Q a := fun a e => by cases e
end Go.Ve
/- VEval, part 40: the evaluator's steps as rules over propositions: what must hold ahead of code, so that it goes on as asked. No condition. -/
namespace Go.Ve
open Go.RowKit
open Classical
noncomputable section

abbrev Sl := Pos → Value
def Sl.up (σ : Sl) (p : Pos) (v : Value) : Sl := fun q => bif p.beq q then v else σ q
def Sl.upO (σ : Sl) (d : Option Pos) (v : Value) : Sl := match d with
  | none => σ
  | some p => σ.up p v
structure DS where
  df : List ADef
  rc : Rc
def opdS (σ : Sl) : Opd → Value
  | .t p => σ p
  | .c v => v
abbrev PQ := AX → Sl → DS → AH → Prop

theorem Sl.up_get (t : PT) (p : Pos) (v : Value) : (t.set p v).get = Sl.up t.get p v := by
  funext q
  rw [PT.get_set]
  unfold Sl.up
  by_cases e : q = p
  · subst e; rw [if_pos rfl, Pos.beq_iff.2 rfl]; rfl
  · rw [if_neg e]
    have : p.beq q = false := by
      cases h : p.beq q with
      | false => rfl
      | true => exact absurd (Pos.beq_iff.1 h).symm e
    rw [this]; rfl
def PT.setO (t : PT) (d : Option Pos) (v : Value) : PT := match d with
  | none => t
  | some p => t.set p v
theorem Sl.upO_get (t : PT) (d : Option Pos) (v : Value) : (t.setO d v).get = Sl.upO t.get d v := by
  cases d with
  | none => rfl
  | some p => exact Sl.up_get t p v
theorem putD_setO (d : Option Pos) (s : St) (v : Value) (h : AH) (k : St → Bool) : putD d s v h k = k ⟨s.tm.setO d v, s.df, s.rc, h⟩ := by rw [putD_eq]; cases d <;> rfl
theorem opdS_get (t : PT) (o : Opd) : opdA t o = opdS t.get o := by cases o <;> rfl

section
variable (P : Program) (w0 : World)

def recO : Task → Bool := fun t => decide (TaskOk P w0 t)
theorem recO_t (t : Task) (h : recO P w0 t = true) : TaskOk P w0 t := of_decide_eq_true h
theorem recO_of {t : Task} (h : TaskOk P w0 t) : recO P w0 t = true := decide_eq_true h

/-- what an operation gives -/
def WP (p : Prim) (vs : List Value) (h : AH) (R : Value → AH → Prop) : Prop := ∀ k : KV, (∀ v h, R v h → k v h = true) → p.ev vs h k = true
/-- what a call comes to -/
def WF (f : FuncId) (args : List Value) (h : AH) (R : CR → AH → Prop) : Prop := TaskOk P w0 (.call f args h fun r h => decide (R r h))
def WR (l : Nat) (args : List Value) (h : AH) (R : CR → AH → Prop) : Prop := TaskOk P w0 (.round l args h fun r h => decide (R r h))
def WL (ds : List ADef) (m : Option Value) (h : AH) (K : Option Value → AH → Prop) : Prop := match ds with
  | [] => K m h
  | ds => TaskOk P w0 (.leave ds m h fun m h => decide (K m h))
/-- what code comes to -/
def WC (c : ACode) (e : Env) (σ : Sl) (d : DS) (h : AH) (Q : PQ) : Prop :=
  ∀ tm : PT, tm.get = σ → TaskOk P w0 (.code c e ⟨tm, d.df, d.rc, h⟩ fun x s => decide (Q x s.tm.get ⟨s.df, s.rc⟩ s.h))

def wpAct (act : Act1) (dst : Option Pos) (e : Env) (σ : Sl) (d : DS) (h : AH) (vs : List Value) (Q : PQ) (K : Sl → DS → AH → Prop) : Prop :=
  match act with
  | .prim p => WP p vs h fun v h => K (σ.upO dst v) d h
  | .call f => WF P w0 f vs h fun r h => match r with
    | .ret v => K (σ.upO dst v) d h
    | .pan v => Q (.pan v) σ d h
  | .dyn => (match vs with
    | .func (.func g) ⟨first⟩ ⟨capt⟩ :: as => WF P w0 g (first ++ (as ++ capt)) h fun r h => match r with
      | .ret v => K (σ.upO dst v) d h
      | .pan v => Q (.pan v) σ d h
    | .func (.yield l) ⟨[]⟩ ⟨[]⟩ :: as => WR P w0 l as h fun r h => match r with
      | .ret v => K (σ.upO dst v) d h
      | .pan v => Q (.pan v) σ d h
    | _ => False)
  | .recover => (match e.rnd, vs with
    | none, [] => (match d.rc with
      | .can v => K (σ.upO dst v) ⟨d.df, .did⟩ h
      | _ => K (σ.upO dst .nilIface) d h)
    | _, _ => False)
  | .panic => (match vs with
    | [.iface t x] => Q (.pan (.iface t x)) σ d h
    | _ => False)
  | .defer => (match e.rnd, vs with
    | none, .func (.func g) ⟨first⟩ ⟨capt⟩ :: as => K (σ.upO dst undef) ⟨.fn g (first ++ (as ++ capt)) :: d.df, d.rc⟩ h
    | _, _ => False)

def wpOp (o : AOp) (e : Env) (σ : Sl) (d : DS) (h : AH) (Q : PQ) (K : Sl → DS → AH → Prop) : Prop :=
  match o.guard with
  | none => wpAct P w0 o.act o.dst e σ d h (o.args.map (opdS σ)) Q K
  | some (p, want) => match σ p with
    | .bool b => bif eqBB b want then wpAct P w0 o.act o.dst e σ d h (o.args.map (opdS σ)) Q K else K (σ.upO o.dst undef) d h
    | _ => K (σ.upO o.dst undef) d h

def wpOps : List AOp → Env → Sl → DS → AH → PQ → Prop
  | [], _, σ, d, h, Q => Q .normal σ d h
  | o :: l, e, σ, d, h, Q => wpOp P w0 o e σ d h Q fun σ d h => wpOps l e σ d h Q

/-- an operation of a region that draws would give here what it gave -/
def chkB (act : Act1) (dst : Option Pos) (vs : List Value) (σ : Sl) (h : AH) : Prop := match act, dst with
  | .prim p, some q => (bif p.makes then p.fresh vs (chkMade ⟨.e, [], .off, h⟩ (σ q)) = true else WP p vs h fun v' _ => valEq v' (σ q) = true)
  | _, _ => False
def chkS (o : AOp) (σ : Sl) (h : AH) : Prop := match o.guard with
  | none => chkB o.act o.dst (o.args.map (opdS σ)) σ h
  | some (p, want) => match σ p with
    | .bool b => bif eqBB b want then chkB o.act o.dst (o.args.map (opdS σ)) σ h else True
    | _ => True

def wpDraw : List DOp → Env → Sl → DS → AH → PQ → Prop
  | [], _, σ, d, h, Q => Q .normal σ d h
  | .op _ o :: l, e, σ, d, h, Q => wpOp P w0 o e σ d h Q fun σ d h => wpDraw l e σ d h Q
  | .chk _ o :: l, e, σ, d, h, Q => chkS o σ h ∧ wpDraw l e σ d h Q

def seqQ (c : Sl → DS → AH → Prop) (Q : PQ) : PQ := fun x σ d h => match x with
  | .normal => c σ d h
  | x => Q x σ d h
def blockQ (id : Nat) (Q : PQ) : PQ := fun x σ d h => match x with
  | .exit j => bif Nat.beq j id then Q .normal σ d h else Q (.exit j) σ d h
  | x => Q x σ d h

def wpC : ACode → Env → Sl → DS → AH → PQ → Prop
  | .skip, _, σ, d, h, Q => Q .normal σ d h
  | .ops l, e, σ, d, h, Q => wpOps P w0 l e σ d h Q
  | .draw l, e, σ, d, h, Q => wpDraw P w0 l e σ d h Q
  | .seq a b, e, σ, d, h, Q => wpC a e σ d h (seqQ (fun σ d h => wpC b e σ d h Q) Q)
  | .cond c a b, e, σ, d, h, Q => (match opdS σ c with
    | .bool true => wpC a e σ d h Q
    | .bool false => wpC b e σ d h Q
    | _ => False)
  | .block id c, e, σ, d, h, Q => wpC c e σ d h (blockQ id Q)
  | .loop c, e, σ, d, h, Q => WC P w0 (.loop c) e σ d h Q
  | .rangeF f ps a b, e, σ, d, h, Q => WC P w0 (.rangeF f ps a b) e σ d h Q
  | .exit id, _, σ, d, h, Q => Q (.exit id) σ d h
  | .ret, _, σ, d, h, Q => Q .ret σ d h
end

section
variable {P : Program} {w0 : World}

theorem CallOk.mono {f : FuncId} {args : List Value} {h : AH} {k k' : CR → AH → Bool} (hk : ∀ r h, k r h = true → k' r h = true) (H : CallOk P w0 f args h k) : CallOk P w0 f args h k' :=
  ⟨H.1, fun φ args' w hl hh => (H.2 φ args' w hl hh).mono fun _ _ ⟨r, h', φ', h1, h2⟩ => ⟨r, h', φ', hk _ _ h1, h2⟩⟩
theorem RoundOk.mono {l : Nat} {args : List Value} {h : AH} {k k' : CR → AH → Bool} (hk : ∀ r h, k r h = true → k' r h = true) (H : RoundOk P w0 l args h k) : RoundOk P w0 l args h k' := by
  intro φ args' l' w h1 h2 h3 h4
  obtain ⟨f, tmps, as, bd, h5, h6⟩ := H φ args' l' w h1 h2 h3 h4
  refine ⟨f, tmps, as, bd, h5, fun c cs => ?_⟩
  obtain ⟨v, v', h', φ', w', g1, g2⟩ := h6 c cs
  exact ⟨v, v', h', φ', w', hk _ _ g1, g2⟩
theorem CodeOk.mono {c : Code} {e : Env} {s : St} {k k' : KS} (hk : ∀ x s, k x s = true → k' x s = true) (H : CodeOk P w0 c e s k) : CodeOk P w0 c e s k' := by
  intro φ b cs0 cs a w h1 h2 it h3 todo
  obtain ⟨x, s', φ', cs', a', w', g1, g2⟩ := H φ b cs0 cs a w h1 h2 it h3 todo
  exact ⟨x, s', φ', cs', a', w', hk _ _ g1, g2⟩
theorem LeaveOk.mono {ds : List ADef} {m : Option Value} {h : AH} {k k' : Option Value → AH → Bool} (hk : ∀ r h, k r h = true → k' r h = true) (H : LeaveOk P w0 ds m h k) : LeaveOk P w0 ds m h k' := by
  intro φ fr cs w h1 h2 h3
  obtain ⟨m', h', φ', w', u, g1, g2⟩ := H φ fr cs w h1 h2 h3
  exact ⟨m', h', φ', w', u, hk _ _ g1, g2⟩
theorem TaskOk.mono_code {c : ACode} {e : Env} {s : St} {k k' : KS} (hk : ∀ x s, k x s = true → k' x s = true) (H : TaskOk P w0 (.code c e s k)) : TaskOk P w0 (.code c e s k') := fun c hc => CodeOk.mono hk (H c hc)
theorem WP.mono {p : Prim} {vs : List Value} {h : AH} {R R' : Value → AH → Prop} (hk : ∀ v h, R v h → R' v h) (H : WP p vs h R) : WP p vs h R' := fun k hk' => H k fun v h hr => hk' v h (hk v h hr)
/-- an operation that gives one thing -/
theorem WP_eq {p : Prim} {vs : List Value} {h h' : AH} {v : Value} {R : Value → AH → Prop} (e : ∀ k : KV, p.ev vs h k = k v h') : WP p vs h R ↔ R v h' :=
  ⟨fun H => of_decide_eq_true ((e fun v h => decide (R v h)).symm.trans (H (fun v h => decide (R v h)) fun _ _ hr => decide_eq_true hr)), fun H k hk => by rw [e]; exact hk _ _ H⟩

theorem WF.mono {f : FuncId} {args : List Value} {h : AH} {R R' : CR → AH → Prop} (hk : ∀ r h, R r h → R' r h) (H : WF P w0 f args h R) : WF P w0 f args h R' :=
  CallOk.mono (fun r h hr => decide_eq_true (hk r h (of_decide_eq_true hr))) H
theorem WR.mono {l : Nat} {args : List Value} {h : AH} {R R' : CR → AH → Prop} (hk : ∀ r h, R r h → R' r h) (H : WR P w0 l args h R) : WR P w0 l args h R' :=
  RoundOk.mono (fun r h hr => decide_eq_true (hk r h (of_decide_eq_true hr))) H
theorem WC.mono {c : ACode} {e : Env} {σ : Sl} {d : DS} {h : AH} {Q Q' : PQ} (hk : ∀ x σ d h, Q x σ d h → Q' x σ d h) (H : WC P w0 c e σ d h Q) : WC P w0 c e σ d h Q' :=
  fun tm htm => TaskOk.mono_code (fun x s hx => decide_eq_true (hk x _ _ _ (of_decide_eq_true hx))) (H tm htm)
theorem WL.mono {ds : List ADef} {m : Option Value} {h : AH} {K K' : Option Value → AH → Prop} (hk : ∀ r h, K r h → K' r h) (H : WL P w0 ds m h K) : WL P w0 ds m h K' := by
  cases ds with
  | nil => exact hk _ _ H
  | cons a l => exact LeaveOk.mono (fun r h hr => decide_eq_true (hk r h (of_decide_eq_true hr))) H

variable (hmix : P.follows .mixedOrders = true)
include hmix
theorem code_of {ac : ACode} {e : Env} {s : St} {k : KS} (h : stCode (recO P w0) ac e s k = true) : TaskOk P w0 (.code ac e s k) :=
  fun c hc => code_sound (drawOk_of hmix w0) (recO_t P w0) c ac e s k hc h
omit hmix

theorem ret_of {dst : Option Pos} {s : St} {fail : KS} {k : St → Bool} {r : CR} {h : AH} (H : match r with | .ret v => k ⟨s.tm.setO dst v, s.df, s.rc, h⟩ = true | .pan v => fail (.pan v) ⟨s.tm, s.df, s.rc, h⟩ = true) : retK dst s fail k r h = true := by
  cases r with
  | ret v => show putD dst s v h k = true; rw [putD_setO]; exact H
  | pan v => cases s; exact H

theorem appL_eq (l m : List Value) (k : List Value → Bool) : appL l m k = k (l ++ m) := by
  induction l generalizing k with
  | nil => rfl
  | cons x l ih => show appL l m (fun l' => k (x :: l')) = _; rw [ih]; rfl

theorem act_of {act : Act1} {dst : Option Pos} {e : Env} {tm : PT} {d : DS} {h : AH} {vs : List Value} {Q : PQ} {K : Sl → DS → AH → Prop} {k : St → Bool}
    (hk : ∀ tm d h, K tm.get d h → k ⟨tm, d.df, d.rc, h⟩ = true) (H : wpAct P w0 act dst e tm.get d h vs Q K) :
    actK (recO P w0) act dst e ⟨tm, d.df, d.rc, h⟩ (fun x s => decide (Q x s.tm.get ⟨s.df, s.rc⟩ s.h)) k vs = true := by
  have key : ∀ (t : PT) (d : DS) (h : AH) (v : Value), K (Sl.upO t.get dst v) d h → k ⟨t.setO dst v, d.df, d.rc, h⟩ = true := fun t d h v hK =>
    hk (t.setO dst v) d h (by rw [Sl.upO_get]; exact hK)
  have ret : ∀ r h', (match r with | .ret v => K (Sl.upO tm.get dst v) d h' | .pan v => Q (.pan v) tm.get d h' : Prop) → retK dst ⟨tm, d.df, d.rc, h⟩ (fun x s => decide (Q x s.tm.get ⟨s.df, s.rc⟩ s.h)) k r h' = true := fun r h' hr => by
    refine ret_of ?_
    cases r with
    | ret v => exact key tm d h' v hr
    | pan v => exact decide_eq_true hr
  cases act with
  | prim p =>
    show p.ev vs h (fun v h' => putD dst ⟨tm, d.df, d.rc, h⟩ v h' k) = true
    exact H _ fun v h' hK => by rw [putD_setO]; exact key tm d h' v hK
  | call f =>
    show recO P w0 (.call f vs h (retK dst ⟨tm, d.df, d.rc, h⟩ _ k)) = true
    exact recO_of P w0 (CallOk.mono (fun r h' hr => ret r h' (of_decide_eq_true hr)) H)
  | dyn =>
    show actDyn (recO P w0) dst e ⟨tm, d.df, d.rc, h⟩ _ k vs = true
    cases vs with
    | nil => exact H.elim
    | cons f as =>
      simp only [wpAct] at H
      split at H
      · rename_i g first capt as' heq
        cases heq
        show appL _ _ _ = true
        rw [appL_eq, appL_eq]
        exact recO_of P w0 (CallOk.mono (fun r h' hr => ret r h' (of_decide_eq_true hr)) H)
      · rename_i l as' heq
        cases heq
        exact recO_of P w0 (RoundOk.mono (fun r h' hr => ret r h' (of_decide_eq_true hr)) H)
      · exact H.elim
  | recover =>
    show actRecover dst e ⟨tm, d.df, d.rc, h⟩ k vs = true
    simp only [wpAct] at H
    unfold actRecover
    split at H
    · rename_i he
      simp only [he]
      split at H
      · rename_i v hv
        simp only [hv]
        rw [putD_setO]; exact key tm ⟨d.df, .did⟩ h v H
      · rename_i hv
        cases hr : d.rc with
        | can v => exact absurd hr (hv v)
        | off => simp only [putD_setO]; have := key tm d h .nilIface H; rw [hr] at this; exact this
        | did => simp only [putD_setO]; have := key tm d h .nilIface H; rw [hr] at this; exact this
    · exact H.elim
  | panic =>
    show actPanic ⟨tm, d.df, d.rc, h⟩ (fun x s => decide (Q x s.tm.get ⟨s.df, s.rc⟩ s.h)) vs = true
    simp only [wpAct] at H
    split at H
    · exact decide_eq_true H
    · exact H.elim
  | defer =>
    show actDefer dst e ⟨tm, d.df, d.rc, h⟩ k vs = true
    simp only [wpAct] at H
    unfold actDefer
    split at H
    · rename_i he
      simp only [he]
      show appL _ _ _ = true
      rw [appL_eq, appL_eq, putD_setO]
      exact key tm ⟨_ :: d.df, d.rc⟩ h undef H
    · exact H.elim
end
end
end Go.Ve
/- VEval, part 41: the rules are right; entering a function, a loop, a range over a function. Premise: the departure from the text's order is one that the program follows. -/
namespace Go.Ve
open Go.RowKit
open Classical
noncomputable section
section
variable {P : Program} {w0 : World}

theorem args_map (t : PT) (l : List Opd) : l.map (opdA t) = l.map (opdS t.get) := List.map_congr_left fun o _ => opdS_get t o

theorem guard_of {g : Option (Pos × Bool)} {t : PT} {yes no : Bool} (H : match g with
  | none => yes = true
  | some (p, want) => match t.get p with
    | .bool b => (bif eqBB b want then yes else no) = true
    | _ => no = true) : guardK g t yes no = true := by
  cases g with
  | none => exact H
  | some pw =>
    obtain ⟨p, want⟩ := pw
    show PT.getK p t (guard1 want yes no) = true
    rw [PT.getK_eq]
    unfold guard1
    revert H
    simp only []
    generalize t.get p = v
    intro H
    split
    · exact H
    · rename_i hne
      revert H
      split
      · rename_i b; exact absurd rfl (hne b)
      · exact fun H => H

theorem op_of {o : AOp} {e : Env} {tm : PT} {d : DS} {h : AH} {Q : PQ} {K : Sl → DS → AH → Prop} {k : St → Bool}
    (hk : ∀ tm d h, K tm.get d h → k ⟨tm, d.df, d.rc, h⟩ = true) (H : wpOp P w0 o e tm.get d h Q K) :
    opK (recO P w0) o e ⟨tm, d.df, d.rc, h⟩ (fun x s => decide (Q x s.tm.get ⟨s.df, s.rc⟩ s.h)) k = true := by
  obtain ⟨dst, act, args, g⟩ := o
  show guardK g tm (argsK args tm (actK (recO P w0) act dst e ⟨tm, d.df, d.rc, h⟩ _ k)) (putD dst ⟨tm, d.df, d.rc, h⟩ undef h k) = true
  rw [argsK_eq, putD_setO, args_map]
  have hno : K (Sl.upO tm.get dst undef) d h → k ⟨tm.setO dst undef, d.df, d.rc, h⟩ = true := fun hK => hk (tm.setO dst undef) d h (by rw [Sl.upO_get]; exact hK)
  refine guard_of ?_
  unfold wpOp at H
  cases g with
  | none => exact act_of hk H
  | some pw =>
    obtain ⟨p, want⟩ := pw
    revert H
    simp only []
    generalize tm.get p = v
    intro H
    cases v <;> first | exact hno H | skip
    rename_i b
    simp only at H ⊢
    cases hb : eqBB b want with
    | true => rw [hb] at H; exact act_of hk H
    | false => rw [hb] at H; exact hno H

theorem ops_of {e : Env} {Q : PQ} : ∀ {l : List AOp} {tm : PT} {d : DS} {h : AH}, wpOps P w0 l e tm.get d h Q → opsK (recO P w0) l e ⟨tm, d.df, d.rc, h⟩ (fun x s => decide (Q x s.tm.get ⟨s.df, s.rc⟩ s.h)) = true := by
  intro l
  induction l with
  | nil => intro tm d h H; exact decide_eq_true H
  | cons o l ih => intro tm d h H; exact op_of (k := fun s => opsK (recO P w0) l e s _) (fun tm d h hK => ih hK) H

theorem chk_of {o : AOp} {tm : PT} {d : DS} {h : AH} (H : chkS o tm.get h) : chkK o ⟨tm, d.df, d.rc, h⟩ = true := by
  obtain ⟨dst, act, args, g⟩ := o
  show guardK g tm (argsK args tm fun vs => Act1.casesOn (motive := fun _ => Bool) act (chkPrim dst ⟨tm, d.df, d.rc, h⟩ vs) no1 false false false false) true = true
  rw [argsK_eq, args_map]
  refine guard_of ?_
  have body : chkB act dst (args.map (opdS tm.get)) tm.get h → Act1.casesOn (motive := fun _ => Bool) act (chkPrim dst ⟨tm, d.df, d.rc, h⟩ (args.map (opdS tm.get))) no1 false false false false = true := by
    intro H
    unfold chkB at H
    cases act with
    | prim p =>
      cases dst with
      | none => exact H.elim
      | some q =>
        show PT.getK q tm (fun v => bif p.makes then p.fresh (args.map (opdS tm.get)) (chkMade ⟨tm, d.df, d.rc, h⟩ v) else p.ev (args.map (opdS tm.get)) h (chkVal v)) = true
        rw [PT.getK_eq]
        simp only at H
        cases hm : p.makes with
        | true => rw [hm] at H; exact H
        | false => rw [hm] at H; exact H _ fun v h hv => hv
    | _ => exact H.elim
  unfold chkS at H
  cases g with
  | none => exact body H
  | some pw =>
    obtain ⟨p, want⟩ := pw
    revert H
    simp only []
    generalize tm.get p = v
    intro H
    cases v <;> first | exact trivial | skip
    rename_i b
    simp only at H ⊢
    cases hb : eqBB b want with
    | true => rw [hb] at H; exact body H
    | false => rfl

theorem draw_of {e : Env} {Q : PQ} : ∀ {l : List DOp} {tm : PT} {d : DS} {h : AH}, wpDraw P w0 l e tm.get d h Q → drawK (recO P w0) l e ⟨tm, d.df, d.rc, h⟩ (fun x s => decide (Q x s.tm.get ⟨s.df, s.rc⟩ s.h)) = true := by
  intro l
  induction l with
  | nil => intro tm d h H; exact decide_eq_true H
  | cons o l ih =>
    intro tm d h H
    cases o with
    | op i o => exact op_of (k := fun s => drawK (recO P w0) l e s _) (fun tm d h hK => ih hK) H
    | chk i o =>
      exact (iff_eq (chkK o ⟨tm, d.df, d.rc, h⟩) (drawK (recO P w0) l e ⟨tm, d.df, d.rc, h⟩ fun x s => decide (Q x s.tm.get ⟨s.df, s.rc⟩ s.h))).2 ⟨chk_of H.1, ih H.2⟩

theorem wpC_sound (hmix : P.follows .mixedOrders = true) : ∀ (c : ACode) {e : Env} {σ : Sl} {d : DS} {h : AH} {Q : PQ}, wpC P w0 c e σ d h Q → WC P w0 c e σ d h Q := by
  intro c
  induction c with
  | skip => intro e σ d h Q H tm htm; subst htm; exact code_of hmix (decide_eq_true H)
  | ops l => intro e σ d h Q H tm htm; subst htm; exact code_of hmix (ops_of H)
  | draw l => intro e σ d h Q H tm htm; subst htm; exact code_of hmix (draw_of H)
  | seq a b iha ihb =>
    intro e σ d h Q H tm htm
    subst htm
    refine code_of hmix (recO_of P w0 (TaskOk.mono_code (fun x s hx => ?_) (iha H tm rfl)))
    have hx' := of_decide_eq_true hx
    cases x with
    | normal => exact recO_of P w0 (ihb hx' s.tm rfl)
    | exit id => exact decide_eq_true hx'
    | ret => exact decide_eq_true hx'
    | pan v => exact decide_eq_true hx'
  | cond c a b iha ihb =>
    intro e σ d h Q H tm htm
    subst htm
    refine code_of hmix ?_
    show opdK c tm (fun v => boolK v fun t => Bool.casesOn (motive := fun _ => Bool) t (recO P w0 (.code b e _ _)) (recO P w0 (.code a e _ _))) = true
    rw [opdK_eq, opdS_get]
    simp only [wpC] at H
    revert H
    cases opdS tm.get c <;> intro H <;> first | exact H.elim | skip
    rename_i t
    cases t with
    | true => exact recO_of P w0 (iha H tm rfl)
    | false => exact recO_of P w0 (ihb H tm rfl)
  | block id c ih =>
    intro e σ d h Q H tm htm
    subst htm
    refine code_of hmix (recO_of P w0 (TaskOk.mono_code (fun x s hx => ?_) (ih H tm rfl)))
    have hx' := of_decide_eq_true hx
    cases x with
    | normal => exact decide_eq_true hx'
    | exit j =>
      show (bif Nat.beq j id then _ else _) = true
      have hx2 : bif Nat.beq j id then Q .normal s.tm.get ⟨s.df, s.rc⟩ s.h else Q (.exit j) s.tm.get ⟨s.df, s.rc⟩ s.h := hx'
      cases hj : Nat.beq j id with
      | true => rw [hj] at hx2; exact decide_eq_true hx2
      | false => rw [hj] at hx2; exact decide_eq_true hx2
    | ret => exact decide_eq_true hx'
    | pan v => exact decide_eq_true hx'
  | loop c ih => intro e σ d h Q H; exact H
  | rangeF f ps a b iha ihb => intro e σ d h Q H; exact H
  | exit id => intro e σ d h Q H tm htm; subst htm; exact code_of hmix (decide_eq_true H)
  | ret => intro e σ d h Q H tm htm; subst htm; exact code_of hmix (decide_eq_true H)

/-- one round of a loop -/
theorem WC_loop (hmix : P.follows .mixedOrders = true) {c : ACode} {e : Env} {σ : Sl} {d : DS} {h : AH} {Q : PQ} (H : wpC P w0 c e σ d h (seqQ (fun σ d h => WC P w0 (.loop c) e σ d h Q) Q)) : WC P w0 (.loop c) e σ d h Q := by
  intro tm htm
  subst htm
  refine code_of hmix (recO_of P w0 (TaskOk.mono_code (fun x s hx => ?_) (wpC_sound hmix c H tm rfl)))
  have hx' := of_decide_eq_true hx
  cases x with
  | normal => exact recO_of P w0 ((show WC P w0 (.loop c) e s.tm.get ⟨s.df, s.rc⟩ s.h Q from hx') s.tm rfl)
  | exit id => exact decide_eq_true hx'
  | ret => exact decide_eq_true hx'
  | pan v => exact decide_eq_true hx'

/-! ### What may be asked for more -/
theorem wpAct_mono {act : Act1} {dst : Option Pos} {e : Env} {σ : Sl} {d : DS} {h : AH} {vs : List Value} {Q Q' : PQ} {K K' : Sl → DS → AH → Prop} (hQ : ∀ x σ d h, Q x σ d h → Q' x σ d h) (hK : ∀ σ d h, K σ d h → K' σ d h)
    (H : wpAct P w0 act dst e σ d h vs Q K) : wpAct P w0 act dst e σ d h vs Q' K' := by
  have r : ∀ (r : CR) (h : AH), (match r with | .ret v => K (σ.upO dst v) d h | .pan v => Q (.pan v) σ d h : Prop) → (match r with | .ret v => K' (σ.upO dst v) d h | .pan v => Q' (.pan v) σ d h : Prop) := fun r h hr => by
    cases r with
    | ret v => exact hK _ _ _ hr
    | pan v => exact hQ _ _ _ _ hr
  cases act with
  | prim p => exact WP.mono (fun v h hv => hK _ _ _ hv) H
  | call f => exact WF.mono r H
  | dyn =>
    simp only [wpAct] at H ⊢
    split at H
    · exact WF.mono r H
    · exact WR.mono r H
    · exact H.elim
  | recover =>
    simp only [wpAct] at H ⊢
    split at H
    · split at H
      · exact hK _ _ _ H
      · exact hK _ _ _ H
    · exact H.elim
  | panic =>
    simp only [wpAct] at H ⊢
    split at H
    · exact hQ _ _ _ _ H
    · exact H.elim
  | defer =>
    simp only [wpAct] at H ⊢
    split at H
    · exact hK _ _ _ H
    · exact H.elim
theorem wpOp_mono {o : AOp} {e : Env} {σ : Sl} {d : DS} {h : AH} {Q Q' : PQ} {K K' : Sl → DS → AH → Prop} (hQ : ∀ x σ d h, Q x σ d h → Q' x σ d h) (hK : ∀ σ d h, K σ d h → K' σ d h)
    (H : wpOp P w0 o e σ d h Q K) : wpOp P w0 o e σ d h Q' K' := by
  obtain ⟨dst, act, args, g⟩ := o
  unfold wpOp at H ⊢
  cases g with
  | none => exact wpAct_mono hQ hK H
  | some pw =>
    obtain ⟨p, want⟩ := pw
    revert H
    simp only []
    generalize σ p = v
    intro H
    cases v <;> first | exact hK _ _ _ H | skip
    rename_i b
    simp only at H ⊢
    revert H
    cases eqBB b want with
    | true => exact fun H => wpAct_mono hQ hK H
    | false => exact fun H => hK _ _ _ H
theorem wpOps_mono {e : Env} {Q Q' : PQ} (hQ : ∀ x σ d h, Q x σ d h → Q' x σ d h) : ∀ {l : List AOp} {σ : Sl} {d : DS} {h : AH}, wpOps P w0 l e σ d h Q → wpOps P w0 l e σ d h Q' := by
  intro l
  induction l with
  | nil => intro σ d h H; exact hQ _ _ _ _ H
  | cons o l ih => intro σ d h H; exact wpOp_mono hQ (fun _ _ _ => ih) H
theorem wpDraw_mono {e : Env} {Q Q' : PQ} (hQ : ∀ x σ d h, Q x σ d h → Q' x σ d h) : ∀ {l : List DOp} {σ : Sl} {d : DS} {h : AH}, wpDraw P w0 l e σ d h Q → wpDraw P w0 l e σ d h Q' := by
  intro l
  induction l with
  | nil => intro σ d h H; exact hQ _ _ _ _ H
  | cons o l ih =>
    intro σ d h H
    cases o with
    | op i o => exact wpOp_mono hQ (fun _ _ _ => ih) H
    | chk i o => exact ⟨H.1, ih H.2⟩
theorem wpC_mono : ∀ (c : ACode) {e : Env} {σ : Sl} {d : DS} {h : AH} {Q Q' : PQ}, (∀ x σ d h, Q x σ d h → Q' x σ d h) → wpC P w0 c e σ d h Q → wpC P w0 c e σ d h Q' := by
  intro c
  induction c with
  | skip => intro e σ d h Q Q' hQ H; exact hQ _ _ _ _ H
  | ops l => intro e σ d h Q Q' hQ H; exact wpOps_mono hQ H
  | draw l => intro e σ d h Q Q' hQ H; exact wpDraw_mono hQ H
  | seq a b iha ihb =>
    intro e σ d h Q Q' hQ H
    refine iha (fun x σ d h hx => ?_) H
    cases x with
    | normal => exact ihb hQ hx
    | _ => exact hQ _ _ _ _ hx
  | cond c a b iha ihb =>
    intro e σ d h Q Q' hQ H
    simp only [wpC] at H ⊢
    revert H
    cases opdS σ c <;> intro H <;> first | exact H.elim | skip
    rename_i t
    revert H
    cases t with
    | true => exact fun H => iha hQ H
    | false => exact fun H => ihb hQ H
  | block id c ih =>
    intro e σ d h Q Q' hQ H
    refine ih (fun x σ d h hx => ?_) H
    cases x with
    | exit j =>
      have hx' : bif Nat.beq j id then Q .normal σ d h else Q (.exit j) σ d h := hx
      show bif Nat.beq j id then Q' .normal σ d h else Q' (.exit j) σ d h
      cases hj : Nat.beq j id with
      | true => rw [hj] at hx'; exact hQ _ _ _ _ hx'
      | false => rw [hj] at hx'; exact hQ _ _ _ _ hx'
    | _ => exact hQ _ _ _ _ hx
  | loop c ih => intro e σ d h Q Q' hQ H; exact WC.mono hQ H
  | rangeF f ps a b iha ihb => intro e σ d h Q Q' hQ H; exact WC.mono hQ H
  | exit id => intro e σ d h Q Q' hQ H; exact hQ _ _ _ _ H
  | ret => intro e σ d h Q Q' hQ H; exact hQ _ _ _ _ H

/-! ### Entering a function -/
def argS (vs : List Value) : Sl := fun p => vs.getD p.un undef
/-- results, out of slots and cells -/
def resS : List ARes → Sl → AH → (List Value → Prop) → Prop
  | [], _, _, K => K []
  | .tmp p :: rs, σ, h, K => resS rs σ h fun vs => K (σ p :: vs)
  | .cell p none :: rs, σ, h, K => WP .load1 [σ p] h fun v _ => resS rs σ h fun vs => K (v :: vs)
  | .cell p (some n) :: rs, σ, h, K => WP (.loadN n) [σ p] h fun v _ => resS rs σ h fun vs => K (v :: vs)
def tupV : List Value → Value
  | [v] => v
  | vs => .tuple ⟨vs⟩
def endQ (P : Program) (w0 : World) (rs : List ARes) (R : CR → AH → Prop) : PQ := fun x σ d h => match x with
  | .pan v => WL P w0 d.df (some v) h fun m h => match m with
    | none => rs = [] ∧ R (.ret (.tuple ⟨[]⟩)) h
    | some v => R (.pan v) h
  | .exit _ => False
  | _ => WL P w0 d.df none h fun m h => match m with
    | none => resS rs σ h fun vs => R (.ret (tupV vs)) h
    | some v => R (.pan v) h

theorem resK_of {tm : PT} {h : AH} : ∀ {rs : List ARes} {K : List Value → Prop} {k : List Value → Bool}, (∀ vs, K vs → k vs = true) → resS rs tm.get h K → resK rs tm h k = true := by
  intro rs
  induction rs with
  | nil => intro K k hk H; exact hk _ H
  | cons r rs ih =>
    intro K k hk H
    cases r with
    | tmp p =>
      show PT.getK p tm (fun v => resK rs tm h fun vs => k (v :: vs)) = true
      rw [PT.getK_eq]
      exact ih (fun vs hv => hk _ hv) H
    | cell p n =>
      cases n with
      | none =>
        show PT.getK p tm (fun v => ptrK v fun b o => read1 h b o fun x => resK rs tm h fun vs => k (x :: vs)) = true
        rw [PT.getK_eq]
        exact H (fun v _ => resK rs tm h fun vs => k (v :: vs)) fun v h' hv => ih (fun vs hv => hk _ hv) hv
      | some n =>
        show PT.getK p tm (fun v => ptrK v fun b o => readAt h b o n fun l => resK rs tm h fun vs => k (.agg ⟨l⟩ :: vs)) = true
        rw [PT.getK_eq]
        exact H (fun v _ => resK rs tm h fun vs => k (v :: vs)) fun v h' hv => ih (fun vs hv => hk _ hv) hv

theorem tupK_eq (vs : List Value) (k : Value → Bool) : tupK vs k = k (tupV vs) := by
  cases vs with
  | nil => rfl
  | cons a l => cases l <;> rfl

theorem leave_of {ds : List ADef} {m : Option Value} {h : AH} {K : Option Value → AH → Prop} {k : Option Value → AH → Bool} (hk : ∀ m h, K m h → k m h = true) (H : WL P w0 ds m h K) : recO P w0 (.leave ds m h k) = true := by
  cases ds with
  | nil => exact recO_of P w0 (leave_sound (rec := recO P w0) (recO_t P w0) (show stLeave (recO P w0) [] m h k = true from hk _ _ H))
  | cons a l => exact recO_of P w0 (LeaveOk.mono (fun r h hr => hk _ _ (of_decide_eq_true hr)) H)

theorem end_of {rs : List ARes} {R : CR → AH → Prop} {x : AX} {s : St} (H : endQ P w0 rs R x s.tm.get ⟨s.df, s.rc⟩ s.h) : endK (recO P w0) rs (fun r h => decide (R r h)) x s = true := by
  have hn : WL P w0 s.df none s.h (fun m h => match m with | none => resS rs s.tm.get h fun vs => R (.ret (tupV vs)) h | some v => R (.pan v) h) → recO P w0 (.leave s.df none s.h (leftK rs s.tm fun r h => decide (R r h))) = true := fun H =>
    leave_of (fun m h hm => by
      cases m with
      | none =>
        show resK rs s.tm h (fun vs => tupK vs fun v => decide (R (.ret v) h)) = true
        exact resK_of (fun vs hv => by rw [tupK_eq]; exact decide_eq_true hv) hm
      | some v => exact decide_eq_true hm) H
  cases x with
  | normal => exact hn H
  | ret => exact hn H
  | exit id => exact H.elim
  | pan v =>
    have H' : WL P w0 s.df (some v) s.h (fun m h => match m with | none => rs = [] ∧ R (.ret (.tuple ⟨[]⟩)) h | some v => R (.pan v) h) := H
    refine leave_of (fun m h hm => ?_) H'
    cases m with
    | none =>
      obtain ⟨h1, h2⟩ := hm
      subst h1
      exact decide_eq_true h2
    | some v => exact decide_eq_true hm

theorem argS_get {args : List Value} {tm : PT} (htm : ∀ p : Pos, tm.get p = if 0 ≤ p.un ∧ p.un < 0 + args.length then args.getD (p.un - 0) undef else PT.e.get p) : tm.get = argS args := by
  funext p
  rw [htm p]
  unfold argS
  split
  · rfl
  · rw [PT.get_e]
    have : ¬ p.un < args.length := by omega
    simp [List.getD, this]

theorem NT.e_set_get {α : Type} (f : Nat) (a : α) : ∀ g b, (NT.set .e f (some a)).get g = some b → g = f ∧ b = a := by
  intro g b h
  rw [NT.get_set] at h
  split at h
  · rename_i e; cases h; exact ⟨e, rfl⟩
  · cases h

theorem WF_enter (hmix : P.follows .mixedOrders = true) {f : FuncId} {af : AFn} (hf : cFn P f = some af) {args : List Value} {h : AH} {R : CR → AH → Prop}
    (H : wpC P w0 af.code ⟨f, af.ntmps, none⟩ (argS args) ⟨[], .off⟩ h (endQ P w0 af.results R)) : WF P w0 f args h R := by
  refine call_sound (prog := NT.set .e f (some af)) (rec := recO P w0) (fun g b hg => by obtain ⟨rfl, rfl⟩ := NT.e_set_get _ _ _ _ hg; exact hf) (recO_t P w0) ?_
  have hg : (NT.set .e f (some af)).get f = some af := by rw [NT.get_set, if_pos rfl]
  show NT.getK _ f _ = true
  have conv : ∀ {t : NT AFn} {i : Nat} {k : AFn → Bool} {x : AFn}, t.get i = some x → k x = true → t.getK i k = true := by
    intro t
    induction t with
    | e => intro i k x h; cases h
    | n l v r ihl ihr =>
      intro i k x hx hk
      rw [NT.getK_n]
      rw [NT.get] at hx
      cases h0 : Nat.beq i 0 with
      | true => rw [h0] at hx; cases v with
        | none => cases hx
        | some y => cases hx; exact hk
      | false =>
        rw [h0] at hx
        cases h1 : Nat.beq (Nat.mod i 2) 1 with
        | true => rw [h1] at hx; exact ihl hx hk
        | false => rw [h1] at hx; exact ihr hx hk
  refine conv hg ?_
  obtain ⟨nt, rs, code⟩ := af
  show layArgs 0 args .e (fun tm => recO P w0 (.code code ⟨f, nt, none⟩ ⟨tm, [], .off, h⟩ (endK (recO P w0) rs _))) = true
  have lay : ∀ (vs : List Value) (i : Nat) (t : PT) (k : PT → Bool), (∀ t' : PT, (∀ p : Pos, t'.get p = if i ≤ p.un ∧ p.un < i + vs.length then vs.getD (p.un - i) undef else t.get p) → k t' = true) → layArgs i vs t k = true := by
    intro vs
    induction vs with
    | nil => intro i t k hk; exact hk t fun p => by rw [if_neg (by simp)]
    | cons v vs ih =>
      intro i t k hk
      show PT.setK (Pos.of i) t v (fun t => layArgs (i + 1) vs t k) = true
      rw [PT.setK_eq]
      refine ih _ _ _ fun t' ht' => hk t' fun p => ?_
      rw [ht', PT.get_set]
      by_cases h3 : p.un = i
      · have hp : p = Pos.of i := Pos.un_inj (by rw [Pos.un_of]; exact h3)
        rw [if_neg (by omega), if_pos hp, if_pos (by simp; omega)]
        simp [h3]
      · have hp : ¬ p = Pos.of i := fun e => h3 (by rw [e, Pos.un_of])
        by_cases h4 : i + 1 ≤ p.un ∧ p.un < i + 1 + vs.length
        · rw [if_pos h4, if_pos (by simp; omega)]
          have : p.un - i = (p.un - (i + 1)) + 1 := by omega
          rw [this]; simp
        · rw [if_neg h4, if_neg hp, if_neg (by simp; omega)]
  refine lay args 0 .e _ fun tm htm => ?_
  exact recO_of P w0 (TaskOk.mono_code (fun x s hx => end_of (of_decide_eq_true hx)) (wpC_sound hmix code H tm (argS_get htm)))

/-! ### Between the evaluator's world and the machine's -/
/-- An abstract heap is well-formed where it stands for a real one. -/
def AH.Ok (h : AH) : Prop := ∀ f, h.nx ≤ f → h.ob.get f = none
theorem WF_ok {f : FuncId} {args : List Value} {h : AH} {R : CR → AH → Prop} (H : h.Ok → WF P w0 f args h R) (hc : Can P f) : WF P w0 f args h R :=
  ⟨hc, fun φ args' w hl hh => (H hh.top).2 φ args' w hl hh⟩

/-- A call that changes nothing of what was there, and gives a truth. -/
theorem WF_below {f : FuncId} {b : Bool} (hc : Can P f) (H : ∀ w, Calls P f #[] w fun E w' => E = .returned (.bool b) ∧ Below w.heap.size w w') {h : AH} {R : CR → AH → Prop} (hR : R (.ret (.bool b)) h) : WF P w0 f [] h R := by
  refine ⟨hc, fun φ args' w hl hh => ?_⟩
  have he : args' = #[] := by cases hl' : args'.toList with
    | nil => simpa using hl'
    | cons a l => rw [hl'] at hl; cases hl
  subst he
  refine (H w).mono fun E w' hE => ?_
  obtain ⟨rfl, hb⟩ := hE
  refine ⟨.ret (.bool b), h, φ, decide_eq_true hR, Ext.refl _ _, Nat.le_refl _, ?_, _, rfl, .bool b⟩
  refine ⟨hh.inj, hh.fresh, hh.top, hh.dead, fun f bl d n hf => ?_, ?_⟩
  · obtain ⟨o, o', h1, h2, h3, h4⟩ := hh.obj f bl d n hf
    exact ⟨o, o', h1, by rw [hb.block bl (Array.getElem?_eq_some_iff.1 h2).1]; exact h2, h3, h4⟩
  · have hw := hh.below
    exact ⟨hb.os.trans hw.os, hb.tape.trans hw.tape, hb.output.trans hw.output, Nat.le_trans hw.size hb.size, fun k hk => (hb.block k (Nat.lt_of_lt_of_le hk hw.size)).trans (hw.block k hk)⟩
end
end
end Go.Ve
/- VEval, part 42: the abstract heap as cells that are read and written; a rule for each operation. No condition. -/
namespace Go.Ve
open Go.RowKit
noncomputable section

/-! ### Forcing, tests -/
theorem iff_T (k : Bool) : iff true k = k := rfl
theorem eqK_same (k : IntKind) : eqK k k = true := by cases k <;> rfl
theorem beq_dec (a b : Nat) : Nat.beq a b = decide (a = b) := by
  by_cases h : a = b
  · subst h; simp
  · rw [beqF h]; simp [h]
theorem eqI_dec (a b : Int) : eqI a b = decide (a = b) := by
  rw [Bool.eq_iff_iff, decide_eq_true_iff]
  cases a <;> cases b <;> simp only [eqI, beq_dec, decide_eq_true_iff]
  · exact Int.ofNat_inj.symm
  · constructor
    · intro h; cases h
    · intro h; cases h
  · constructor
    · intro h; cases h
    · intro h; cases h
  · constructor
    · intro h; rw [h]
    · intro h; cases h; rfl
theorem ltI_dec (a b : Int) : ltI a b = decide (a < b) := by
  rw [Bool.eq_iff_iff, decide_eq_true_iff]
  cases a <;> cases b <;> simp only [ltI]
  · rename_i a b
    show Nat.ble (a + 1) b = true ↔ _
    rw [Nat.ble_eq]
    show a + 1 ≤ b ↔ (a : Int) < (b : Int)
    omega
  · rename_i a b
    constructor
    · intro h; cases h
    · intro h; have h' : (a : Int) < Int.negSucc b := h; omega
  · rename_i a b
    constructor
    · intro _; show Int.negSucc a < (b : Int); omega
    · intro _; first | trivial | rfl
  · rename_i a b
    show Nat.ble (b + 1) a = true ↔ Int.negSucc a < Int.negSucc b
    rw [Nat.ble_eq]
    omega
theorem wrapQ_in {n : Int} (h1 : -9223372036854775808 ≤ n) (h2 : n ≤ 9223372036854775807) : wrapQ .i64 n = n := by
  cases n with
  | ofNat a =>
    show (bif Nat.ble a m63 then (Int.ofNat a) else _) = _
    have : Nat.ble a m63 = true := by rw [Nat.ble_eq]; have : ((a : Nat) : Int) ≤ 9223372036854775807 := h2; show a ≤ 9223372036854775807; omega
    rw [this]; rfl
  | negSucc a =>
    show (bif Nat.ble a m63 then (Int.negSucc a) else _) = _
    have : Nat.ble a m63 = true := by rw [Nat.ble_eq]; show a ≤ 9223372036854775807; omega
    rw [this]; rfl
theorem eqBs_dec : ∀ (a b : List UInt8), eqBs a b = decide (a = b)
  | [], [] => by simp [eqBs]
  | [], b :: m => by simp [eqBs]
  | a :: l, [] => by simp [eqBs]
  | a :: l, b :: m => by
    simp only [eqBs]
    rw [eqBs_dec l m]
    by_cases h : a = b
    · subst h; simp
    · have : a.toNat ≠ b.toNat := fun e => h (UInt8.toNat_inj.1 e)
      rw [beqF this]; simp [h]
theorem natK_of (kd : IntKind) (n : Nat) (k : Nat → Bool) : natK (.int kd (n : Int)) k = k n := rfl

/-! ### Cells -/
def AH.rd (h : AH) (b o : Nat) : Option Value := match h.ob.get b with
  | some (.cells lo hi _ _ c) => if lo ≤ o ∧ o + 1 ≤ hi then c.get o else none
  | _ => none
def AH.can (h : AH) (b o n : Nat) : Prop := ∃ lo hi ty c, h.ob.get b = some (.cells lo hi ty true c) ∧ lo ≤ o ∧ o + n ≤ hi
def layV : NT Value → Nat → List Value → NT Value
  | c, _, [] => c
  | c, i, v :: l => layV (c.set i (some v)) (i + 1) l
def AH.wr (h : AH) (b o : Nat) (l : List Value) : AH := match h.ob.get b with
  | some (.cells lo hi ty rw c) => ⟨h.nx, h.ob.set b (some (.cells lo hi ty rw (layV c o l)))⟩
  | _ => h
def AH.new (h : AH) (ty : TypeId) (l : List Value) : AH := ⟨h.nx + 1, h.ob.set h.nx (some (.cells 0 l.length ty true (layV .e 0 l)))⟩

theorem layK_eq : ∀ (l : List Value) (c : NT Value) (i : Nat) (k : NT Value → Bool), layK c i l k = k (layV c i l)
  | [], c, i, k => rfl
  | v :: l, c, i, k => by
    show NT.setK (fuelOf i) c i (some v) (fun c' => fN (Nat.succ i) fun i' => layK c' i' l k) = _
    rw [NT.setK_eq, fN_eq, layK_eq l]
    rfl
theorem layV_get : ∀ (l : List Value) (c : NT Value) (i j : Nat), (layV c i l).get j = if i ≤ j ∧ j < i + l.length then l[j - i]? else c.get j
  | [], c, i, j => by
    rw [if_neg (fun h => by have := h.2; simp at this; omega)]; rfl
  | v :: l, c, i, j => by
    show (layV (c.set i (some v)) (i + 1) l).get j = _
    rw [layV_get l, NT.get_set]
    by_cases h : j = i
    · subst h
      rw [if_neg (by omega), if_pos rfl, if_pos (by simp)]
      simp
    · rw [if_neg h]
      by_cases h2 : i + 1 ≤ j ∧ j < i + 1 + l.length
      · rw [if_pos h2, if_pos (by simp; omega)]
        have : j - i = (j - (i + 1)) + 1 := by omega
        rw [this]; simp
      · rw [if_neg h2, if_neg (by simp; omega)]

theorem AH.rd_new (h : AH) (ty : TypeId) (l : List Value) (b o : Nat) : (h.new ty l).rd b o = if b = h.nx then l[o]? else h.rd b o := by
  unfold AH.rd AH.new
  simp only [NT.get_set]
  by_cases e : b = h.nx
  · subst e
    simp only [if_true]
    rw [layV_get]
    by_cases ho : o < l.length
    · rw [if_pos (by omega), if_pos (by omega)]; rfl
    · rw [if_neg (by omega)]; simp [Nat.le_of_not_lt ho]
  · simp only [if_neg e]
theorem AH.nx_new (h : AH) (ty : TypeId) (l : List Value) : (h.new ty l).nx = h.nx + 1 := rfl
theorem AH.ok_new {h : AH} (H : h.Ok) (ty : TypeId) (l : List Value) : (h.new ty l).Ok := fun f hf => by
  have : h.nx + 1 ≤ f := hf
  show (h.ob.set h.nx _).get f = none
  rw [NT.get_set, if_neg (by omega)]
  exact H f (by omega)
theorem AH.can_new_same (h : AH) (ty : TypeId) (l : List Value) {o n : Nat} (hn : o + n ≤ l.length) : (h.new ty l).can h.nx o n :=
  ⟨0, l.length, ty, _, by show (h.ob.set h.nx _).get h.nx = _; rw [NT.get_set, if_pos rfl], Nat.zero_le _, hn⟩
theorem AH.can_new {h : AH} (ty : TypeId) (l : List Value) {b o n : Nat} (H : h.can b o n) (hb : b ≠ h.nx) : (h.new ty l).can b o n := by
  obtain ⟨lo, hi, ty', c, h1, h2, h3⟩ := H
  exact ⟨lo, hi, ty', c, by show (h.ob.set h.nx _).get b = _; rw [NT.get_set, if_neg hb]; exact h1, h2, h3⟩

theorem AH.wr_nx (h : AH) (b o : Nat) (l : List Value) : (h.wr b o l).nx = h.nx := by unfold AH.wr; split <;> rfl
theorem AH.wr_get (h : AH) {b o : Nat} {l : List Value} {b' : Nat} (hb : b' ≠ b) : (h.wr b o l).ob.get b' = h.ob.get b' := by
  unfold AH.wr; split
  · simp only [NT.get_set, if_neg hb]
  · rfl
theorem AH.rd_wr {h : AH} {b o n : Nat} {l : List Value} (H : h.can b o n) (hl : l.length ≤ n) (b' o' : Nat) : (h.wr b o l).rd b' o' = if b' = b ∧ o ≤ o' ∧ o' < o + l.length then l[o' - o]? else h.rd b' o' := by
  obtain ⟨lo, hi, ty, c, h1, h2, h3⟩ := H
  by_cases e : b' = b
  · subst e
    unfold AH.rd AH.wr
    simp only [h1, NT.get_set, if_true]
    rw [layV_get]
    by_cases ho : o ≤ o' ∧ o' < o + l.length
    · simp only [ho, and_self, if_true]
      rw [if_pos (by omega)]
    · simp only [true_and, if_neg ho]
  · rw [if_neg (fun h => e h.1)]
    unfold AH.rd
    rw [AH.wr_get h e]
theorem AH.can_wr {h : AH} {b o : Nat} {l : List Value} {b' o' n' : Nat} (H : h.can b' o' n') : (h.wr b o l).can b' o' n' := by
  by_cases e : b' = b
  · subst e
    obtain ⟨lo, hi, ty, c, h1, h2, h3⟩ := H
    unfold AH.can AH.wr
    simp only [h1, NT.get_set, if_true]
    exact ⟨lo, hi, ty, _, rfl, h2, h3⟩
  · obtain ⟨lo, hi, ty, c, h1, h2, h3⟩ := H
    exact ⟨lo, hi, ty, c, by rw [AH.wr_get h e]; exact h1, h2, h3⟩
theorem AH.ok_wr {h : AH} (H : h.Ok) (b o : Nat) (l : List Value) : (h.wr b o l).Ok := fun f hf => by
  rw [AH.wr_nx] at hf
  unfold AH.wr
  split
  · rename_i lo hi ty rw c heq
    show (h.ob.set b _).get f = none
    rw [NT.get_set]
    by_cases e : f = b
    · subst e; rw [H f hf] at heq; cases heq
    · rw [if_neg e]; exact H f hf
  · exact H f hf
theorem AH.lt_of_get {h : AH} (H : h.Ok) {b : Nat} {o : AO} (hr : h.ob.get b = some o) : b < h.nx := by
  rcases Nat.lt_or_ge b h.nx with h1 | h1
  · exact h1
  · rw [H b h1] at hr; cases hr
theorem AH.rd_get {h : AH} {b o : Nat} {v : Value} (hr : h.rd b o = some v) : ∃ a, h.ob.get b = some a := by
  unfold AH.rd at hr
  split at hr
  · rename_i heq; exact ⟨_, heq⟩
  · cases hr
theorem AH.lt_of_rd {h : AH} (H : h.Ok) {b o : Nat} {v : Value} (hr : h.rd b o = some v) : b < h.nx := by
  obtain ⟨a, ha⟩ := AH.rd_get hr; exact AH.lt_of_get H ha

/-- what was there stays -/
structure Keep (h h' : AH) : Prop where
  nx : h.nx ≤ h'.nx
  get : ∀ b, b < h.nx → h'.ob.get b = h.ob.get b
theorem Keep.refl (h : AH) : Keep h h := ⟨Nat.le_refl _, fun _ _ => rfl⟩
theorem Keep.trans {a b c : AH} (h1 : Keep a b) (h2 : Keep b c) : Keep a c := ⟨Nat.le_trans h1.nx h2.nx, fun f hf => (h2.get f (Nat.lt_of_lt_of_le hf h1.nx)).trans (h1.get f hf)⟩
theorem Keep.new (h : AH) (ty : TypeId) (l : List Value) : Keep h (h.new ty l) := ⟨Nat.le_succ _, fun f hf => by show (h.ob.set h.nx _).get f = _; rw [NT.get_set, if_neg (by omega)]⟩
theorem Keep.wr {a h : AH} (H : Keep a h) {b : Nat} (hb : a.nx ≤ b) (o : Nat) (l : List Value) : Keep a (h.wr b o l) :=
  ⟨by rw [AH.wr_nx]; exact H.nx, fun f hf => by rw [AH.wr_get h (by omega)]; exact H.get f hf⟩
theorem Keep.rd {h h' : AH} (H : Keep h h') (hok : h.Ok) {b o : Nat} {v : Value} (hr : h.rd b o = some v) : h'.rd b o = some v := by
  have := AH.lt_of_rd hok hr
  unfold AH.rd at hr ⊢
  rw [H.get b this]; exact hr
theorem Keep.rd_eq {h h' : AH} (H : Keep h h') {b o : Nat} (hb : b < h.nx) : h'.rd b o = h.rd b o := by unfold AH.rd; rw [H.get b hb]

/-- n cells from a place on -/
def AH.rds (h : AH) (b o : Nat) (l : List Value) : Prop := ∀ i v, l[i]? = some v → h.rd b (o + i) = some v
theorem AH.rds_nil (h : AH) (b o : Nat) : h.rds b o [] := fun i v hv => by simp at hv
theorem AH.rds_cons {h : AH} {b o : Nat} {v : Value} {l : List Value} : h.rds b o (v :: l) ↔ h.rd b o = some v ∧ h.rds b (o + 1) l := by
  constructor
  · intro H
    exact ⟨H 0 v rfl, fun i u hu => by have := H (i + 1) u (by simpa using hu); rwa [show o + (i + 1) = o + 1 + i by omega] at this⟩
  · rintro ⟨h1, h2⟩ i u hu
    cases i with
    | zero => simp at hu; subst hu; exact h1
    | succ i => have := h2 i u (by simpa using hu); rwa [show o + 1 + i = o + (i + 1) by omega] at this
theorem AH.rds_append {h : AH} {b o : Nat} {l m : List Value} : h.rds b o (l ++ m) ↔ h.rds b o l ∧ h.rds b (o + l.length) m := by
  induction l generalizing o with
  | nil => simp [AH.rds_nil]
  | cons v l ih => rw [List.cons_append, AH.rds_cons, AH.rds_cons, ih, and_assoc]; simp [Nat.add_comm, Nat.add_left_comm, Nat.add_assoc]
theorem Keep.rds {h h' : AH} (H : Keep h h') (hok : h.Ok) {b o : Nat} {l : List Value} (hr : h.rds b o l) : h'.rds b o l := fun i v hv => H.rd hok (hr i v hv)
theorem AH.rds_new (h : AH) (ty : TypeId) (l : List Value) : (h.new ty l).rds h.nx 0 l := fun i v hv => by rw [AH.rd_new, if_pos rfl, Nat.zero_add]; exact hv

theorem getK_of {α : Type} {t : NT α} : ∀ {i : Nat} {k : α → Bool} {x : α}, t.get i = some x → t.getK i k = k x := by
  induction t with
  | e => intro i k x h; cases h
  | n l v r ihl ihr =>
    intro i k x hx
    rw [NT.getK_n]
    rw [NT.get] at hx
    cases h0 : Nat.beq i 0 with
    | true => rw [h0] at hx; cases v with
      | none => cases hx
      | some y => cases hx; rfl
    | false =>
      rw [h0] at hx
      cases h1 : Nat.beq (Nat.mod i 2) 1 with
      | true => rw [h1] at hx; exact ihl hx
      | false => rw [h1] at hx; exact ihr hx
theorem obK_of {h : AH} {b : Nat} {o : AO} (ho : h.ob.get b = some o) (k : AO → Bool) : obK h b k = k o := by
  cases h; exact getK_of ho
theorem putK_eq (h : AH) (b : Nat) (o : Option AO) (k : AH → Bool) : putK h b o k = k ⟨h.nx, h.ob.set b o⟩ := by
  cases h with
  | mk nx ob => exact NT.setK_eq ob b o fun ob' => k ⟨nx, ob'⟩
theorem newK_eq (h : AH) (o : AO) (k : Nat → AH → Bool) : newK h o k = k h.nx ⟨h.nx + 1, h.ob.set h.nx (some o)⟩ := by
  cases h with
  | mk nx ob =>
    show NT.setK (fuelOf nx) ob nx (some o) (fun ob' => fN (Nat.succ nx) fun nx' => k nx ⟨nx', ob'⟩) = _
    rw [NT.setK_eq, fN_eq]
theorem newCells_eq (h : AH) (ty : TypeId) {l : List Value} (ha : allOne l = true) (k : Nat → AH → Bool) : newCells h ty l k = k h.nx (h.new ty l) := by
  unfold newCells
  rw [ha, iff_T, layK_eq, fN_eq, newK_eq]
  rfl
theorem readK_eq (c : NT Value) : ∀ (l : List Value) (i : Nat) (k : List Value → Bool), (∀ j v, l[j]? = some v → c.get (i + j) = some v) → readK c i l.length k = k l
  | [], i, k, _ => rfl
  | v :: l, i, k, H => by
    show NT.getK c i (fun v => fN (Nat.succ i) fun i' => readK c i' l.length fun l => k (v :: l)) = _
    rw [getK_of (by have := H 0 v rfl; rwa [Nat.add_zero] at this), fN_eq, readK_eq c l (i + 1) _ fun j u hu => by
      have := H (j + 1) u (by simpa using hu); rwa [show i + (j + 1) = i + 1 + j by omega] at this]
theorem rd_cells {h : AH} {b o : Nat} {v : Value} (hr : h.rd b o = some v) : ∃ lo hi ty rw c, h.ob.get b = some (.cells lo hi ty rw c) ∧ lo ≤ o ∧ o + 1 ≤ hi ∧ c.get o = some v := by
  unfold AH.rd at hr
  split at hr
  · rename_i lo hi ty rw c heq
    split at hr
    · rename_i hb; exact ⟨lo, hi, ty, rw, c, heq, hb.1, hb.2, hr⟩
    · cases hr
  · cases hr
theorem read1_eq {h : AH} {b o : Nat} {v : Value} (hr : h.rd b o = some v) (k : Value → Bool) : read1 h b o k = k v := by
  obtain ⟨lo, hi, ty, rw, c, h1, h2, h3, h4⟩ := rd_cells hr
  unfold read1 cellsK
  rw [obK_of h1]
  show iff (Nat.ble lo o && Nat.ble (Nat.succ o) hi) (NT.getK c o k) = _
  have e : (Nat.ble lo o && Nat.ble (Nat.succ o) hi) = true := by simp only [Bool.and_eq_true, Nat.ble_eq]; exact ⟨h2, h3⟩
  rw [e, iff_T, getK_of h4]
theorem rds_cells {h : AH} {b o : Nat} {l : List Value} (hr : h.rds b o l) (hl : 0 < l.length) : ∃ lo hi ty rw c, h.ob.get b = some (.cells lo hi ty rw c) ∧ lo ≤ o ∧ o + l.length ≤ hi ∧ ∀ j v, l[j]? = some v → c.get (o + j) = some v := by
  obtain ⟨lo, hi, ty, rw, c, h1, h2, h3, h4⟩ := rd_cells (hr 0 l[0] (by simp [hl]))
  have key : ∀ j v, l[j]? = some v → lo ≤ o + j ∧ o + j + 1 ≤ hi ∧ c.get (o + j) = some v := by
    intro j v hv
    obtain ⟨lo', hi', ty', rw', c', g1, g2, g3, g4⟩ := rd_cells (hr j v hv)
    rw [h1] at g1; cases g1
    exact ⟨g2, g3, g4⟩
  refine ⟨lo, hi, ty, rw, c, h1, h2, ?_, fun j v hv => (key j v hv).2.2⟩
  have := (key (l.length - 1) l[l.length - 1] (by simp [hl])).2.1
  omega
theorem readAt_eq {h : AH} {b o n : Nat} {l : List Value} (hr : h.rds b o l) (hn : l.length = n) (hl : 0 < n) (k : List Value → Bool) : readAt h b o n k = k l := by
  subst hn
  obtain ⟨lo, hi, ty, rw, c, h1, h2, h3, h4⟩ := rds_cells hr hl
  unfold readAt cellsK
  rw [obK_of h1]
  show iff (Nat.ble lo o && Nat.ble (Nat.add o l.length) hi) (readK c o l.length k) = _
  have e : (Nat.ble lo o && Nat.ble (Nat.add o l.length) hi) = true := by simp only [Bool.and_eq_true, Nat.ble_eq]; exact ⟨h2, h3⟩
  rw [e, iff_T, readK_eq c l o k h4]
theorem writeAt_eq {h : AH} {b o : Nat} {l : List Value} (hc : h.can b o l.length) (ha : allOne l = true) (k : AH → Bool) : writeAt h b o l k = k (h.wr b o l) := by
  obtain ⟨lo, hi, ty, c, h1, h2, h3⟩ := hc
  unfold writeAt cellsK
  rw [obK_of h1]
  show iff (true && Nat.ble lo o && Nat.ble (Nat.add o l.length) hi && allOne l) _ = _
  have e : (true && Nat.ble lo o && Nat.ble (Nat.add o l.length) hi && allOne l) = true := by simp only [Bool.and_eq_true, Nat.ble_eq]; exact ⟨⟨⟨trivial, h2⟩, h3⟩, ha⟩
  rw [e, iff_T, layK_eq, putK_eq]
  unfold AH.wr
  rw [h1]
theorem lenEq_eq : ∀ (l : List Value) (n : Nat), lenEq l n = decide (l.length = n)
  | [], 0 => rfl
  | [], n + 1 => by show false = _; simp
  | v :: l, 0 => by show false = _; simp
  | v :: l, n + 1 => by show lenEq l n = _; rw [lenEq_eq l n]; simp

/-! ### A rule for each operation -/
section
variable {h : AH} {R : Value → AH → Prop}
theorem WP_move {x : Value} : WP .move [x] h R ↔ R x h := WP_eq fun _ => rfl
theorem WP_pick {c : Bool} {a b : Value} : WP .pick [.bool c, a, b] h R ↔ R (bif c then a else b) h := WP_eq fun k => by cases c <;> rfl
theorem WP_alloc {ty : TypeId} {zero : List Value} (ha : allOne zero = true) : WP (.alloc ty zero) [] h R ↔ R (mkP h.nx 0) (h.new ty zero) := WP_eq fun k => newCells_eq h ty ha _
theorem WP_box {ty : TypeId} {v : Value} (ha : allOne (cellsOf v) = true) : WP (.box ty) [v] h R ↔ R (mkP h.nx 0) (h.new ty (cellsOf v)) := WP_eq fun k => newCells_eq h ty ha _
abbrev mkS (b o n c : Nat) : Value := .slice (some ⟨b, o, none⟩) n c
abbrev vi (n : Int) : Value := .int .i64 n
abbrev nilS : Value := .slice none 0 0
theorem WP_load1 {b o : Nat} {s : Option Nat} {v : Value} (hr : h.rd b o = some v) : WP .load1 [.pointer (some ⟨b, o, s⟩)] h R ↔ R v h := WP_eq fun _ => read1_eq hr _
theorem WP_loadN {b o n : Nat} {s : Option Nat} {l : List Value} (hr : h.rds b o l) (hn : l.length = n) (h0 : 0 < n) : WP (.loadN n) [.pointer (some ⟨b, o, s⟩)] h R ↔ R (.agg ⟨l⟩) h := WP_eq fun _ => readAt_eq hr hn h0 _
theorem WP_store {b o n : Nat} {s : Option Nat} {v : Value} (hc : h.can b o n) (hn : (cellsOf v).length = n) (ha : allOne (cellsOf v) = true) : WP (.store n) [.pointer (some ⟨b, o, s⟩), v] h R ↔ R undef (h.wr b o (cellsOf v)) :=
  WP_eq fun k => by
    show iff (lenEq (cellsOf v) n) (writeAt h b o (cellsOf v) fun h => k undef h) = _
    rw [lenEq_eq, decide_eq_true hn, iff_T, writeAt_eq (by rw [hn]; exact hc) ha]
theorem WP_nilCheck {x : Value} (hx : nilOk x = true) : WP .nilCheck [x] h R ↔ R x h := WP_eq fun k => by
  show iff (nilOk x) (k x h) = _
  rw [hx, iff_T]
theorem WP_fieldAddr {b o off : Nat} {s : Option Nat} : WP (.fieldAddr off) [.pointer (some ⟨b, o, s⟩)] h R ↔ R (mkP b (o + off)) h := WP_eq fun k => by
  show fN (Nat.add o off) (fun o' => k (mkP b o') h) = _
  rw [fN_eq]; rfl
theorem nthK_eq : ∀ {l : List Value} {i : Nat} {v : Value} (_ : l[i]? = some v) (k : Value → Bool), nthK l i k = k v
  | [], i, v, h, k => by simp at h
  | x :: l, 0, v, h, k => by simp at h; subst h; rfl
  | x :: l, i + 1, v, h, k => by show nthK l i k = _; exact nthK_eq (by simpa using h) k
theorem WP_field1 {l : List Value} {off : Nat} {v : Value} (hv : l[off]? = some v) : WP (.field1 off) [.agg ⟨l⟩] h R ↔ R v h := WP_eq fun _ => nthK_eq hv _
theorem dropK_eq : ∀ {l : List Value} {i : Nat} (_ : i ≤ l.length) (k : List Value → Bool), dropK l i k = k (l.drop i)
  | [], 0, h, k => rfl
  | [], i + 1, h, k => by simp at h
  | x :: l, 0, h, k => rfl
  | x :: l, i + 1, h, k => by show dropK l i k = _; rw [dropK_eq (by simpa using h)]; rfl
theorem takeK_eq : ∀ {l : List Value} {i : Nat} (_ : i ≤ l.length) (k : List Value → Bool), takeK l i k = k (l.take i)
  | [], 0, h, k => rfl
  | [], i + 1, h, k => by simp at h
  | x :: l, 0, h, k => rfl
  | x :: l, i + 1, h, k => by show takeK l i (fun l' => k (x :: l')) = _; rw [takeK_eq (by simpa using h)]; rfl
theorem WP_fieldN {l : List Value} {off n : Nat} (hl : off + n ≤ l.length) : WP (.fieldN off n) [.agg ⟨l⟩] h R ↔ R (.agg ⟨(l.drop off).take n⟩) h := WP_eq fun k => by
  show dropK l off (fun l => takeK l n fun l => k (.agg ⟨l⟩) h) = _
  rw [dropK_eq (by omega), takeK_eq (by simp; omega)]
theorem WP_idxSlice {sz b o n c i : Nat} {kd : IntKind} {s : Option Nat} (hi : i < n) : WP (.idxSlice sz) [.slice (some ⟨b, o, s⟩) n c, .int kd (i : Int)] h R ↔ R (mkP b (o + i * sz)) h := WP_eq fun k => by
  show iff (Nat.ble (Nat.succ i) n) (fN (Nat.add o (Nat.mul i sz)) fun o' => k (mkP b o') h) = _
  have : Nat.ble (Nat.succ i) n = true := by rw [Nat.ble_eq]; exact hi
  rw [this, iff_T, fN_eq]; rfl
theorem WP_idxArr {len sz b o i : Nat} {kd : IntKind} {s : Option Nat} (hi : i < len) : WP (.idxArr len sz) [.pointer (some ⟨b, o, s⟩), .int kd (i : Int)] h R ↔ R (mkP b (o + i * sz)) h := WP_eq fun k => by
  show iff (Nat.ble (Nat.succ i) len) (fN (Nat.add o (Nat.mul i sz)) fun o' => k (mkP b o') h) = _
  have : Nat.ble (Nat.succ i) len = true := by rw [Nat.ble_eq]; exact hi
  rw [this, iff_T, fN_eq]; rfl
theorem WP_index1 {len i : Nat} {kd : IntKind} {l : List Value} {v : Value} (hi : i < len) (hv : l[i]? = some v) : WP (.index1 len) [.agg ⟨l⟩, .int kd (i : Int)] h R ↔ R v h := WP_eq fun k => by
  show iff (Nat.ble (Nat.succ i) len) (nthK l i fun v => k v h) = _
  have : Nat.ble (Nat.succ i) len = true := by rw [Nat.ble_eq]; exact hi
  rw [this, iff_T, nthK_eq hv]
theorem WP_indexN {len sz i : Nat} {kd : IntKind} {l : List Value} (hi : i < len) (hl : len * sz ≤ l.length) : WP (.indexN len sz) [.agg ⟨l⟩, .int kd (i : Int)] h R ↔ R (.agg ⟨(l.drop (i * sz)).take sz⟩) h := WP_eq fun k => by
  show iff (Nat.ble (Nat.succ i) len) (dropK l (Nat.mul i sz) fun l => takeK l sz fun l => k (.agg ⟨l⟩) h) = _
  have : Nat.ble (Nat.succ i) len = true := by rw [Nat.ble_eq]; exact hi
  have h1 : i * sz + sz ≤ l.length := by
    have : (i + 1) * sz ≤ len * sz := Nat.mul_le_mul_right _ hi
    rw [Nat.add_mul] at this; omega
  rw [this, iff_T, show Nat.mul i sz = i * sz from rfl, dropK_eq (by omega), takeK_eq (by simp only [List.length_drop]; omega)]
theorem WP_indexS {i : Nat} {kd : IntKind} {s : ByteArray} {c : UInt8} (hc : s.data.toList[i]? = some c) : WP .indexS [.string s, .int kd (i : Int)] h R ↔ R (.int .u8 (c.toNat : Int)) h := WP_eq fun k => by
  show (match s.data.toList[i]? with | some c => fN c.toNat fun n => k (.int .u8 (.ofNat n)) h | none => false) = _
  rw [hc]; simp only; rw [fN_eq]; rfl

/-! integers -/
theorem WP_add {k : IntKind} {x y : Int} : WP (.iop .add) [.int k x, .int k y] h R ↔ R (.int k (wrapQ k (x + y))) h := WP_eq fun kk => by
  show iff (eqK k k) (fI (wrapQ k (Int.add x y)) fun n => kk (.int k n) h) = _
  rw [eqK_same, iff_T, fI_eq]; rfl
theorem WP_sub {k : IntKind} {x y : Int} : WP (.iop .sub) [.int k x, .int k y] h R ↔ R (.int k (wrapQ k (x - y))) h := WP_eq fun kk => by
  show iff (eqK k k) (fI (wrapQ k (Int.sub x y)) fun n => kk (.int k n) h) = _
  rw [eqK_same, iff_T, fI_eq]; rfl
theorem WP_mul {k : IntKind} {x y : Int} : WP (.iop .mul) [.int k x, .int k y] h R ↔ R (.int k (wrapQ k (x * y))) h := WP_eq fun kk => by
  show iff (eqK k k) (fI (wrapQ k (Int.mul x y)) fun n => kk (.int k n) h) = _
  rw [eqK_same, iff_T, fI_eq]; rfl
theorem WP_quo {k : IntKind} {x y : Int} (hy : y ≠ 0) : WP (.iop .quo) [.int k x, .int k y] h R ↔ R (.int k (wrapQ k (x.tdiv y))) h := WP_eq fun kk => by
  show iff (eqK k k) (bif eqI y (.ofNat 0) then false else fI (wrapQ k (Int.tdiv x y)) fun n => kk (.int k n) h) = _
  rw [eqK_same, iff_T, eqI_dec, show Int.ofNat 0 = 0 from rfl, decide_eq_false hy, fI_eq]; rfl
theorem WP_rem {k : IntKind} {x y : Int} (hy : y ≠ 0) : WP (.iop .rem) [.int k x, .int k y] h R ↔ R (.int k (x.tmod y)) h := WP_eq fun kk => by
  show iff (eqK k k) (bif eqI y (.ofNat 0) then false else fI (Int.tmod x y) fun n => kk (.int k n) h) = _
  rw [eqK_same, iff_T, eqI_dec, show Int.ofNat 0 = 0 from rfl, decide_eq_false hy, fI_eq]; rfl
theorem WP_eql {k : IntKind} {x y : Int} : WP (.iop .eql) [.int k x, .int k y] h R ↔ R (.bool (decide (x = y))) h := WP_eq fun kk => by
  show iff (eqK k k) (fB (eqI x y) fun b => kk (.bool b) h) = _
  rw [eqK_same, iff_T, fB_eq, eqI_dec]
theorem WP_neq {k : IntKind} {x y : Int} : WP (.iop .neq) [.int k x, .int k y] h R ↔ R (.bool (!decide (x = y))) h := WP_eq fun kk => by
  show iff (eqK k k) (fB (!eqI x y) fun b => kk (.bool b) h) = _
  rw [eqK_same, iff_T, fB_eq, eqI_dec]
theorem WP_lss {k : IntKind} {x y : Int} : WP (.iop .lss) [.int k x, .int k y] h R ↔ R (.bool (decide (x < y))) h := WP_eq fun kk => by
  show iff (eqK k k) (fB (ltI x y) fun b => kk (.bool b) h) = _
  rw [eqK_same, iff_T, fB_eq, ltI_dec]
theorem WP_leq {k : IntKind} {x y : Int} : WP (.iop .leq) [.int k x, .int k y] h R ↔ R (.bool (decide (x ≤ y))) h := WP_eq fun kk => by
  show iff (eqK k k) (fB (!ltI y x) fun b => kk (.bool b) h) = _
  rw [eqK_same, iff_T, fB_eq, ltI_dec]
  congr 2
  rw [← decide_not]
  congr 1
  exact propext Int.not_lt
theorem WP_gtr {k : IntKind} {x y : Int} : WP (.iop .gtr) [.int k x, .int k y] h R ↔ R (.bool (decide (y < x))) h := WP_eq fun kk => by
  show iff (eqK k k) (fB (ltI y x) fun b => kk (.bool b) h) = _
  rw [eqK_same, iff_T, fB_eq, ltI_dec]
theorem WP_geq {k : IntKind} {x y : Int} : WP (.iop .geq) [.int k x, .int k y] h R ↔ R (.bool (decide (y ≤ x))) h := WP_eq fun kk => by
  show iff (eqK k k) (fB (!ltI x y) fun b => kk (.bool b) h) = _
  rw [eqK_same, iff_T, fB_eq, ltI_dec]
  congr 2
  rw [← decide_not]
  congr 1
  exact propext Int.not_lt
theorem WP_neg {k : IntKind} {x : Int} : WP .neg [.int k x] h R ↔ R (.int k (wrapQ k (0 - x))) h := WP_eq fun kk => by
  show fI (wrapQ k (Int.sub (.ofNat 0) x)) (fun n => kk (.int k n) h) = _
  rw [fI_eq]; rfl
theorem WP_conv {k k' : IntKind} {x : Int} : WP (.conv k') [.int k x] h R ↔ R (.int k' (wrapQ k' x)) h := WP_eq fun kk => by
  show fI (wrapQ k' x) (fun n => kk (.int k' n) h) = _
  rw [fI_eq]
theorem WP_max {k : IntKind} {x y : Int} : WP .maxI [.int k x, .int k y] h R ↔ R (.int k (max x y)) h := WP_eq fun kk => by
  show iff (eqK k k) (bif ltI x y then kk (.int k y) h else kk (.int k x) h) = _
  rw [eqK_same, iff_T, ltI_dec]
  by_cases e : x < y
  · rw [decide_eq_true e, Int.max_eq_right (by omega)]; rfl
  · rw [decide_eq_false e, Int.max_eq_left (by omega)]; rfl
theorem WP_min {k : IntKind} {x y : Int} : WP .minI [.int k x, .int k y] h R ↔ R (.int k (min x y)) h := WP_eq fun kk => by
  show iff (eqK k k) (bif ltI y x then kk (.int k y) h else kk (.int k x) h) = _
  rw [eqK_same, iff_T, ltI_dec]
  by_cases e : y < x
  · rw [decide_eq_true e, Int.min_eq_right (by omega)]; rfl
  · rw [decide_eq_false e, Int.min_eq_left (by omega)]; rfl

/-! truths, strings, nil -/
theorem WP_notB {b : Bool} : WP .notB [.bool b] h R ↔ R (.bool (!b)) h := WP_eq fun kk => by
  show fB (!b) (fun b => kk (.bool b) h) = _
  rw [fB_eq]
theorem WP_eqB {a b : Bool} : WP (.eqB false) [.bool a, .bool b] h R ↔ R (.bool (a == b)) h := WP_eq fun kk => by cases a <;> cases b <;> rfl
theorem WP_neqB {a b : Bool} : WP (.eqB true) [.bool a, .bool b] h R ↔ R (.bool (a != b)) h := WP_eq fun kk => by cases a <;> cases b <;> rfl
theorem bytes_inj {a b : ByteArray} : a.data.toList = b.data.toList ↔ a = b := by
  cases a; cases b; simp [Array.toList_inj]
theorem WP_seql {a b : ByteArray} : WP (.sop .eql) [.string a, .string b] h R ↔ R (.bool (decide (a = b))) h := WP_eq fun kk => by
  show fB (eqBs a.data.toList b.data.toList) (fun b => kk (.bool b) h) = _
  rw [fB_eq, eqBs_dec, decide_eq_decide.2 bytes_inj]
theorem WP_sneq {a b : ByteArray} : WP (.sop .neq) [.string a, .string b] h R ↔ R (.bool (!decide (a = b))) h := WP_eq fun kk => by
  show fB (!eqBs a.data.toList b.data.toList) (fun b => kk (.bool b) h) = _
  rw [fB_eq, eqBs_dec, decide_eq_decide.2 bytes_inj]
theorem WP_eqNil {nk : Nat} {ng b : Bool} {x y : Value} (hx : isNilV nk x = some b) (hy : isNilV nk y = some true) : WP (.eqNil nk ng) [x, y] h R ↔ R (.bool (b != ng)) h := WP_eq fun kk => by
  show eqNilD (isNilV nk x) (isNilV nk y) ng (fun v => kk v h) = _
  rw [hx, hy]; cases b <;> cases ng <;> rfl
theorem WP_extract {l : List Value} {i : Nat} {v : Value} (hv : l[i]? = some v) : WP (.extract i) [.tuple ⟨l⟩] h R ↔ R v h := WP_eq fun _ => nthK_eq hv _
theorem WP_lenSl {a : Addr} {n c : Nat} : WP .lenSl [.slice (some a) n c] h R ↔ R (.int .i64 (n : Int)) h := WP_eq fun _ => by cases a; rfl
theorem WP_lenNil {n c : Nat} : WP .lenSl [.slice none n c] h R ↔ R (.int .i64 0) h := WP_eq fun _ => rfl
theorem WP_lenStr {s : ByteArray} : WP .lenStr [.string s] h R ↔ R (.int .i64 (s.data.toList.length : Int)) h := WP_eq fun kk => by
  show fN s.data.toList.length (fun n => kk (.int .i64 (.ofNat n)) h) = _
  rw [fN_eq]; rfl
theorem WP_lenArr {n : Nat} {x : Value} : WP (.lenArr n) [x] h R ↔ R (.int .i64 (n : Int)) h := WP_eq fun _ => rfl
theorem WP_mkIface {ty : TypeId} {x : Value} : WP (.mkIface ty) [x] h R ↔ R (.iface ty x) h := WP_eq fun _ => rfl
theorem WP_mkFunc {fn : Fn} {nf : Nat} {vs : List Value} (hn : nf ≤ vs.length) : WP (.mkFunc fn nf) vs h R ↔ R (.func fn ⟨vs.take nf⟩ ⟨vs.drop nf⟩) h := WP_eq fun kk => by
  show takeK vs nf (fun a => dropK vs nf fun b => kk (.func fn ⟨a⟩ ⟨b⟩) h) = _
  rw [takeK_eq hn, dropK_eq hn]
theorem appL_app (l m : List Value) (k : List Value → Bool) : appL l m k = k (l ++ m) := appL_eq l m k
theorem joinK_eq : ∀ {ss : List Nat} {vs : List Value} (_ : ss = vs.map fun v => (cellsOf v).length) (k : List Value → Bool), joinK ss vs k = k (vs.flatMap cellsOf)
  | [], [], _, k => rfl
  | [], v :: vs, h, k => by simp at h
  | n :: ss, [], h, k => by simp at h
  | n :: ss, v :: vs, h, k => by
    simp only [List.map_cons, List.cons.injEq] at h
    show iff (lenEq (cellsOf v) n) (joinK ss vs fun l => appL (cellsOf v) l k) = _
    rw [lenEq_eq, decide_eq_true h.1.symm, iff_T, joinK_eq h.2, appL_eq]; rfl
theorem WP_buildAll {ss : List Nat} {vs : List Value} (hs : ss = vs.map fun v => (cellsOf v).length) : WP (.buildAll ss) vs h R ↔ R (.agg ⟨vs.flatMap cellsOf⟩) h := WP_eq fun _ => joinK_eq hs _
end
end
end Go.Ve
