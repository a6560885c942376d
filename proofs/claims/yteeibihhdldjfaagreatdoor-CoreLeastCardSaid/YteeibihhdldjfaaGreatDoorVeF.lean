/- Part 6: VEval, part 7: each operation of the evaluator stands for the machine's own, the rest. No condition. And what follows it. -/
import Derived.Test.YteeibihhdldjfaaGreatDoorVeE
import Derived.Laws.MakeOwn
set_option linter.unusedVariables false
set_option linter.unusedSimpArgs false
namespace Go.Ve
open Go.RowKit
section
variable {P : Program} {w0 w : World} {φ : aE} {h : AH} {ρ : Operand → Value} {o : Oper} {vs : List Value} {k : KV}
def Pu : Nat → TypeDesc → Bool
 | 0, .pointer _ => true
 | 1, .slice _ => true
 | 2, .map _ _ => true
 | 3, .func _ _ _ => true
 | 4, .interface _ => true
 | _, _ => false
theorem agK {nk : Nat} {t : TypeId} {d : TypeDesc} {a b : Value} {x y : Bool} (n : Nat) (hu : P.underlying t = some d) (hd : Pu nk d = true) (ha : iN nk a = some x) (hb : iN nk b = some y) (Pv : x = true ∨ y = true) :
 (Op.equalIn (n + 1) t a b).run P w = .ok (x && y) w := by
 unfold iN at ha
 split at ha <;> cases ha <;> (unfold iN at hb; split at hb <;> first | (cases hb; done) | skip) <;> cases hb <;> (unfold Pu at hd; split at hd <;> first | (cases hd; done) | skip) <;> first
  | (exfalso; omega)
  | (exfalso; rcases Pv with h | h <;> cases h; done)
  | (simp only [Op.equalIn, Sem.run_bind, run_underlying hu, Result.andThen_ok]; rfl)
theorem agL {nk : Nat} {t : TypeId} {a b : Value} {x y r : Bool} (ha : iN nk a = some x) (hb : iN nk b = some y) (hr : (Op.equal t a b).run P w = .ok r w) :
 (binOp .eql t a b).run P w = .ok (.bool r) w ∧ (binOp .neq t a b).run P w = .ok (.bool (!r)) w := by
 unfold iN at ha
 split at ha <;> cases ha <;> (unfold iN at hb; split at hb <;> first | (cases hb; done) | skip) <;> cases hb <;> constructor <;> simp [binOp, hr]
theorem W3 {nk : Nat} {op : BinOp} {t : TypeId} {X Y : Operand} {a b : Value} {x y : Bool} (ha : iN nk a = some x) (hb : iN nk b = some y) (hk : nk = 4 → (vB X || vB Y) = true) : (eqGuard op t X Y a b).run P w = .ok () w := by
 have hc : nk = 4 → ((X matches .const _) || (Y matches .const _)) = true := by
  intro h4
  have := hk h4
  unfold vB at this
  cases X <;> cases Y <;> simp_all
 unfold iN at ha
 split at ha <;> cases ha <;> (unfold iN at hb; split at hb <;> first | (cases hb; done) | skip) <;> cases hb <;> (unfold eqGuard; cases op <;> simp)
 all_goals
  have := hc rfl
  intro h1
  cases X <;> cases Y <;> simp_all
theorem oj {nk : Nat} {op : BinOp} {t u : TypeId} {x y : Operand} {d : TypeDesc} {ng : Bool} (ho : o.op = .binOp op t x y u) (aQ : (op = .eql ∧ ng = false) ∨ (op = .neq ∧ ng = true)) (hu : P.underlying t = some d) (hd : Pu nk d = true) (hk : nk = 4 → (vB x || vB y) = true) (H : HR P w0 φ h w) (hv : LR φ vs ([x, y].map ρ)) (e : FG nk ng vs h k = true) : PR P w0 φ h ((execOp ρ o).run P w) fun v h' => k v h' = true := by
 obtain ⟨p, q, al, e1⟩ := gm e; clear e; subst al; have e := e1; clear e1
 obtain ⟨p', q', hp, hr, hq⟩ := hv.two
 simp at hp; obtain ⟨e1, e2⟩ := hp; subst e1 e2
 have key : ∃ a b, iN nk p = some a ∧ iN nk q = some b ∧ (a = true ∨ b = true) ∧ k (.bool (bif ng then !(a && b) else (a && b))) h = true := by
  unfold AU at e
  split at e
  · rename_i b h1 h2
    simp only [q7, ia] at e
    exact ⟨true, b, h1, h2, .inl rfl, by simpa using e⟩
  · rename_i b _ h1 h2
    simp only [q7, ia] at e
    exact ⟨b, true, h1, h2, .inr rfl, by simpa using e⟩
  · cases e
 obtain ⟨a, b, h1, h2, h3, h4⟩ := key
 have gM := X9 hr h1
 have qQ := X9 hq h2
 have bO : (Op.equal t (ρ x) (ρ y)).run P w = .ok (a && b) w := agK 9999 hu hd gM qQ h3
 have hg := W3 (P := P) (w := w) (op := op) (t := t) gM qQ hk
 have hb := agL gM qQ bO
 rcases aQ with ⟨rfl, rfl⟩ | ⟨rfl, rfl⟩
 · exact .same H (by simp only [execOp, ho]; simp [hg, hb.1]) (.bool _) h4
 · exact .same H (by simp only [execOp, ho]; simp [hg, hb.2]) (.bool _) h4
theorem agM {kc : Nat} {a b : Value} {r : Bool} {t : TypeId} {d : TypeDesc} (he : lh kc a b = some r) (hu : P.underlying t = some d) (hk : iZ d = some kc) (n : Nat) : (Op.equalIn (n + 1) t a b).run P w = .ok r w ∧ ln d = false := by
 unfold lh at he
 split at he
 · rename_i k1 x k2 y
   cases dM : fy k1 k2 with
   | false => rw [dM] at he; cases he
   | true =>
    rw [dM] at he
    simp only [cond_true, Option.some.injEq] at he
    obtain rfl := mD dM
    subst he
    unfold iZ at hk
    split at hk <;> first | (cases hk; done) | skip
    rw [qL]
    exact ⟨run_equalIn_int w n t k1 _ x y hu, rfl⟩
 · rename_i x y
   simp only [Option.some.injEq] at he
   subst he
   unfold iZ at hk
   split at hk <;> first | (cases hk; done) | skip
   refine ⟨?_, rfl⟩
   rw [run_equalIn_bool' w n t x y hu]
   cases x <;> cases y <;> rfl
 · rename_i x y
   simp only [Option.some.injEq] at he
   subst he
   unfold iZ at hk
   split at hk <;> first | (cases hk; done) | skip
   rw [eqStr]
   exact ⟨run_equalIn_string w n t x y hu, rfl⟩
 · cases he
theorem z6 {kc : Nat} {a b a' b' : Value} {r : Bool} (ha : VR φ a a') (hb : VR φ b b') (he : lh kc a b = some r) : a' = a ∧ b' = b := by
 unfold lh at he
 split at he <;> first | (cases he; done) | skip
 · exact ⟨ha.fX, hb.fX⟩
 · exact ⟨ha.pC, hb.pC⟩
 · exact ⟨ha.ja, hb.ja⟩
theorem Ya : ∀ (fs : List Field) (n : Nat) (ks : List Nat) (xs ys : Array Value) (l m l' m' : List Value) (r : Bool) (dp : Nat), yj P n fs = some ks → vo ks l m = some r → LR φ l l' → LR φ m m' →
 xs.toList.drop n = l' → ys.toList.drop n = m' → (Op.eqFields (dp + 1) xs ys fs).run P w = .ok r w
 | [], n, ks, xs, ys, l, m, l', m', r, dp, hf, he, _, _, _, _ => by
  simp only [yj, Option.some.injEq] at hf
  subst hf
  cases l with
  | nil =>
   cases m with
   | nil => simp only [vo, Option.some.injEq] at he; subst he; simp [Op.eqFields]
   | cons _ _ => simp [vo] at he
  | cons _ _ => simp [vo] at he
 | f :: fs, n, ks, xs, ys, l, m, l', m', r, dp, hf, he, hl, hm, hx, hy => by
  simp only [yj] at hf
  split at hf
  · rename_i Yb
    split at hf
    · rename_i kc ks' h1 h2
      cases hf
      unfold vo at he
      split at he
      · rename_i q; cases q
      · rename_i kc' anv a l2 b m2 q
        cases q
        cases hl with | cons _ a' _ Az ha hl =>
        cases hm with | cons _ b' _ Yc hb hm =>
        obtain ⟨d, Yd, hd2⟩ : ∃ d, P.underlying f.type = some d ∧ iZ d = some kc := by
         cases hu : P.underlying f.type with
         | none => simp [hu] at h1
         | some d => exact ⟨d, rfl, by simpa [hu] using h1⟩
        have gx : xs[n]? = some a' := by
         have : (xs.toList.drop n)[0]? = some a' := by rw [hx]; rfl
         simpa using this
        have gy : ys[n]? = some b' := by
         have : (ys.toList.drop n)[0]? = some b' := by rw [hy]; rfl
         simpa using this
        have dx : xs.toList.drop (n + 1) = Az := by
         have := congrArg (List.drop 1) hx
         simpa using this
        have dy : ys.toList.drop (n + 1) = Yc := by
         have := congrArg (List.drop 1) hy
         simpa using this
        have hof : f.offset = n := Yb.2
        cases hs : lh kc a b with
        | none => rw [hs] at he; cases he
        | some r1 =>
         obtain ⟨rfl, rfl⟩ := z6 ha hb hs
         obtain ⟨bO, hag⟩ := agM (w := w) hs Yd hd2 dp
         rw [hs] at he
         simp only [Op.eqFields, Yb.1, ne_eq, not_false_eq_true, if_true, hof]
         simp only [Sem.run_bind, part, qV Yd, hag, Result.andThen_ok, Bool.false_eq_true, if_false, gx, gy, Sem.run_pure, bO]
         cases r1 with
         | false => cases he; simp
         | true =>
          simp only [Bool.not_true, Bool.false_eq_true, if_false]
          exact Ya fs (n + 1) ks' xs ys l2 m2 Az Yc r dp h2 he hl hm dx dy
      · cases he
    · cases hf
  · cases hf
theorem Ux {op : BinOp} {t u : TypeId} {x y : Operand} {fs : Array Field} {ks : List Nat} {ng : Bool} (ho : o.op = .binOp op t x y u) (aQ : (op = .eql ∧ ng = false) ∨ (op = .neq ∧ ng = true)) (hu : P.underlying t = some (.struct fs))
 (hs : P.stoodInHeld t = false) (hq : P.eqGuardType P.depth t = false) (hf : yj P 0 fs.toList = some ks) (H : HR P w0 φ h w) (hv : LR φ vs ([x, y].map ρ)) (e : M9 ng ks vs h k = true) : PR P w0 φ h ((execOp ρ o).run P w) fun v h' => k v h' = true := by
 obtain ⟨p, q, al, e1⟩ := gm e; clear e; subst al; have e := e1; clear e1
 obtain ⟨p', q', hp, hr, hq'⟩ := hv.two
 simp at hp; obtain ⟨e1, e2⟩ := hp; subst e1 e2
 obtain ⟨a, al, e1⟩ := yo e; clear e; subst al; have e := e1; clear e1
 obtain ⟨b, al, e1⟩ := yo e; clear e; subst al; have e := e1; clear e1
 obtain ⟨a', hx, hla⟩ := hr.vH
 obtain ⟨b', hy, NU⟩ := hq'.vH
 unfold q7 at e
 split at e
 · rename_i r he
   rw [ia] at e
   have G3 : P.fieldsOf t = fs := by unfold Program.fieldsOf; rw [hu]
   have bO : (Op.equal t (.agg a') (.agg b')).run P w = .ok r w := by
    unfold Op.equal
    rw [show Op.maxDepth = 9998 + 1 + 1 from rfl, run_equalIn_struct w _ t a' b' (by rw [G3]; exact hu) hs, G3]
    exact Ya fs.toList 0 ks a' b' _ _ _ _ r 9998 hf he hla NU (by simp) (by simp)
   have hg : (eqGuard op t x y (.agg a') (.agg b')).run P w = .ok () w := by
    rcases aQ with ⟨rfl, rfl⟩ | ⟨rfl, rfl⟩ <;> simp [eqGuard, hq]
   have hb : (binOp op t (.agg a') (.agg b')).run P w = .ok (.bool (bif ng then !r else r)) w := by
    rcases aQ with ⟨rfl, rfl⟩ | ⟨rfl, rfl⟩ <;> simp [binOp, bO]
   exact .same H (by simp only [execOp, ho, hx, hy]; simp [hg, hb]) (.bool _) e
 · cases e
end
end Go.Ve
namespace Go.Ve
open Go.RowKit
section
variable {P : Program} {w0 w : World} {φ : aE} {h : AH} {ρ : Operand → Value} {o : Oper} {vs : List Value} {k : KV}
theorem pX {x : Option Operand} {rest : List Operand} {vs : List Value} {d : Nat} {k : Nat → List Value → Bool} (e : nI x.isSome vs d k = true) (hv : LR φ vs ((x.toList ++ rest).map ρ)) :
 ∃ n gQ, k n gQ = true ∧ LR φ gQ (rest.map ρ) ∧ ((x = none ∧ n = d) ∨ ∃ y kd, x = some y ∧ ρ y = .int kd (Int.ofNat n)) := by
 cases x with
 | none => exact ⟨d, vs, e, by simpa using hv, .inl ⟨rfl, rfl⟩⟩
 | some y =>
  cases vs with
  | nil => cases e
  | cons v vs =>
   obtain ⟨kd, n, rfl, e⟩ := qJ (show nH v (fun n => k n vs) = true from e)
   simp only [Option.toList_some, List.cons_append, List.nil_append, List.map_cons] at hv
   cases hv with | cons _ v' _ l' h1 h2 =>
   exact ⟨n, vs, e, h2, .inr ⟨y, kd, rfl, h1.fX⟩⟩
theorem run_sliceBound (kd : IntKind) (n y : Nat) (c : BoundsCode) (hle : n ≤ y) : (Instr.sliceBound (.int kd (n : Int)) y c).run P w = .ok n w := by
 simp [Instr.sliceBound, asIntOf, hle]
theorem Ga {isS : Bool} {len cap l hh m : Nat} {lo hi mx : Option Operand} (vT : mx.isSome = true → hi.isSome = true)
 (hl : (lo = none ∧ l = 0) ∨ ∃ y kd, lo = some y ∧ ρ y = .int kd (Int.ofNat l)) (hh' : (hi = none ∧ hh = len) ∨ ∃ y kd, hi = some y ∧ ρ y = .int kd (Int.ofNat hh)) (hm : (mx = none ∧ m = cap) ∨ ∃ y kd, mx = some y ∧ ρ y = .int kd (Int.ofNat m))
 (h1 : l ≤ hh) (h2 : hh ≤ m) (h3 : m ≤ cap) : (Instr.sliceBounds isS len cap (lo.map ρ) (hi.map ρ) (mx.map ρ)).run P w = .ok (l, hh, m) w := by
 unfold Instr.sliceBounds
 rcases hm with ⟨rfl, rfl⟩ | ⟨ym, km, rfl, em⟩ <;> rcases hh' with ⟨rfl, rfl⟩ | ⟨yh, kh, rfl, eh⟩ <;> rcases hl with ⟨rfl, rfl⟩ | ⟨yl, kl, rfl, el⟩
 · simp
 · simp [el, run_sliceBound kl l hh _ h1]
 · simp [eh, run_sliceBound kh hh m _ h2]
 · simp [eh, el, run_sliceBound kh hh m _ h2, run_sliceBound kl l hh _ h1]
 · simp at vT
 · simp at vT
 · simp [em, eh, run_sliceBound km m cap _ h3, run_sliceBound kh hh m _ h2]
 · simp [em, eh, el, run_sliceBound km m cap _ h3, run_sliceBound kh hh m _ h2, run_sliceBound kl l hh _ h1]
theorem Pw {a a' : Addr} {l hh m sz : Nat} {k : Value → Bool} {r : Value → Bool} (hs : φ a.block ≠ none) (hm : m < aU) (h1 : l ≤ hh) (h2 : hh ≤ m) (cw : 0 < m → AtR φ a a')
 (e : (bif Nat.beq m l then k (.slice (some ⟨a.block, a.off, none⟩) (hh - l) 0) else k (.slice (some ⟨a.block, a.off + l * sz, none⟩) (hh - l) (m - l))) = true) :
 ∃ v, k v = true ∧ VR φ v (.slice (if m = l then some a' else some (a'.add (l * sz))) (hh - l) (m - l)) := by
 by_cases rk : m = l
 · subst rk
   rw [j7 rfl, cond_true] at e
   refine ⟨_, e, ?_⟩
   simp only [if_true, Nat.sub_self]
   have : hh - m = 0 := by omega
   rw [this]
   exact .sl _ _ _ _ _ hs (.inl ⟨by unfold aU; omega, rfl, Nat.le_refl _, fun h => by omega⟩)
 · rw [eO rk, cond_false] at e
   refine ⟨_, e, ?_⟩
   rw [if_neg rk]
   refine .sl _ _ _ _ _ hs (.inl ⟨by omega, rfl, by omega, fun h b d n hl => ?_⟩)
   obtain ⟨e1, e2, e3⟩ := cw (by omega) b d n hl
   rw [lv a' e3]
   exact ⟨e1, by show a'.off + l * sz + d = a.off + l * sz; omega, rfl⟩
theorem adm {t e' : TypeId} {x : Operand} {lo hi mx : Option Operand} {sz : Nat} (ho : o.op = .slice t x lo hi mx) (hu : P.underlying t = some (.slice e')) (hz : dV P e' = some sz) (ef : 0 < sz) (vT : mx.isSome = true → hi.isSome = true)
 (H : HR P w0 φ h w) (hv : LR φ vs ((x :: (lo.toList ++ hi.toList ++ mx.toList)).map ρ)) (e : AV sz lo.isSome hi.isSome mx.isSome vs h k = true) : PR P w0 φ h ((execOp ρ o).run P w) fun v h' => k v h' = true := by
 obtain ⟨i, cz, rfl⟩ := kG hz
 cases vs with
 | nil => cases e
 | cons v vs =>
  simp only [List.map_cons] at hv
  cases hv with | cons _ v' _ l' hr hv =>
  have hv : LR φ vs ((lo.toList ++ (hi.toList ++ mx.toList)).map ρ) := by simpa using hv
  unfold AV at e
  dsimp only at e
  rcases oe e with ⟨l0, c0, al, e1⟩ | ⟨a, len, cap, al, e1⟩ <;> clear e <;> subst al
  · obtain ⟨rfl, rfl, hx⟩ := hr.pD
    obtain ⟨l, EU, e2, qN, hl⟩ := pX e1 hv
    obtain ⟨hh, NQ, e3, mG, vE⟩ := pX (rest := mx.toList) e2 qN
    obtain ⟨c1, e4⟩ := bV e3
    simp only [Bool.and_eq_true] at c1
    obtain ⟨⟨⟨c1, c2⟩, c3⟩, c4⟩ := c1
    obtain rfl := Nat.eq_of_beq_eq_true c1
    obtain rfl := Nat.eq_of_beq_eq_true c2
    have Ad : mx = none := by cases mx <;> simp_all
    subst Ad
    have hb := Ga (P := P) (w := w) (isS := true) (len := 0) (cap := 0) (m := 0) vT hl vE (.inl ⟨rfl, rfl⟩) (Nat.le_refl _) (Nat.le_refl _) (Nat.le_refl _)
    simp only [Option.map_none] at hb
    refine .same H ?_ .lO e4
    simp only [execOp, ho, hx]
    simp only [Instr.sliceAt, Instr.slice, Sem.run_bind, run_underlying hu, Result.andThen_ok]
    simp [hb, iJ cz]
  · obtain ⟨a', cH, hx, hs, hc⟩ := hr.ni
    obtain ⟨l, EU, e2, qN, hl⟩ := pX e1 hv
    obtain ⟨hh, NQ, e3, mG, vE⟩ := pX (rest := mx.toList) e2 qN
    obtain ⟨m, vs3, e4, hv3, hm⟩ := pX (x := mx) (rest := []) e3 (by simpa using mG)
    obtain ⟨c1, e5⟩ := bV e4
    simp only [Bool.and_eq_true] at c1
    obtain ⟨⟨⟨⟨⟨_, c1⟩, c2⟩, c3⟩, c4⟩, c5⟩ := c1
    have c1 := Nat.le_of_ble_eq_true c1
    have c2 := Nat.le_of_ble_eq_true c2
    unfold q8 at e5
    rw [bT] at e5
    have fin : ∀ {m' : Nat} {v : Value}, ((mx = none ∧ m' = cH) ∨ ∃ y kd, mx = some y ∧ ρ y = .int kd (Int.ofNat m')) → hh ≤ m' → m' ≤ cH → k v h = true →
     VR φ v (.slice (if m' = l then some a' else some (a'.add (l * i.size))) (hh - l) (m' - l)) → PR P w0 φ h ((execOp ρ o).run P w) fun v h' => k v h' = true := by
     intro m' v q1 q2 q3 q4 q5
     have hb := Ga (P := P) (w := w) (isS := true) (len := len) (cap := cH) (m := m') vT hl vE q1 c1 q2 q3
     refine .same H ?_ q5 q4
     simp only [execOp, ho, hx]
     simp only [Instr.sliceAt, Instr.slice, Sem.run_bind, run_underlying hu, Result.andThen_ok]
     simp [hb, iJ cz]
     try (split <;> rfl)
    rcases hc with ⟨g1, g2, g2', g3⟩ | ⟨sz, g1, g2, g3, g4⟩
    · -- tg capacity is known
      have Fk : Nat.ble aU cap = false := by rw [sC]; simp; omega
      rw [Fk] at e5 c4
      simp only [Bool.false_and, cond_false] at e5
      obtain ⟨oD, e5⟩ := bV e5
      have oD : m < aU := Nat.le_of_ble_eq_true oD
      rw [bT, bT] at e5
      subst g2
      have hmc : m ≤ cH := by
       rcases hm with ⟨_, rfl⟩ | ⟨y, kd, hy, _⟩
       · exact Nat.le_refl _
       · rw [hy] at c4; exact Nat.le_of_ble_eq_true (by simpa using c4)
      obtain ⟨v, q1, q2⟩ := Pw (k := fun v => k v h) (r := fun _ => true) (sz := i.size) hs oD c1 c2 (fun hp => g3 (by omega)) e5
      exact fin hm c2 hmc q1 q2
    · -- it is not
      have hb : Nat.ble aU cap = true := by rw [sC]; simp; omega
      rw [hb] at e5 c4 c5 c3
      simp only [Bool.not_true, Bool.or_false] at c3
      have c3 := Nat.le_of_ble_eq_true c3
      have c5 := Nat.eq_of_beq_eq_true (by simpa using c5 : Nat.beq cap (Nat.add aU i.size) = true)
      have agN : sz = i.size := by have : aU + sz = aU + i.size := g1 ▸ c5; omega
      subst agN
      rcases hm with ⟨Ad, rfl⟩ | ⟨y, kd, hy, Px⟩
      · subst Ad
        simp only [Option.isSome_none, Bool.not_false, Bool.and_self, cond_true, bT] at e5
        refine fin (m' := cH) (.inl ⟨rfl, rfl⟩) (by omega) (Nat.le_refl _) e5 ?_
        by_cases rk : cH = l
        · rw [if_pos rk]
          refine .sl _ _ _ _ _ hs (.inr ⟨i.size, g1, g2, (by show hh - l ≤ cH - l; omega), fun hp => by omega⟩)
        · rw [if_neg rk]
          refine .sl _ _ _ _ _ hs (.inr ⟨i.size, g1, g2, (by show hh - l ≤ cH - l; omega), fun hp => ⟨fun b d n hl => ?_, fun b d n hl => ?_⟩⟩)
          · obtain ⟨e1, e2, e3⟩ := (g4 (by omega)).1 b d n hl
            rw [lv a' e3]
            exact ⟨e1, by show a'.off + l * i.size + d = a.off + l * i.size; omega, rfl⟩
          · have h5 := (g4 (by omega)).2 b d n hl
            obtain ⟨e1, e2, e3⟩ := (g4 (by omega)).1 b d n hl
            rw [lv a' e3]
            show a'.off + l * i.size + (cH - l) * i.size ≤ n
            have : l * i.size + (cH - l) * i.size = cH * i.size := by rw [← Nat.add_mul]; congr 1; omega
            omega
      · have hsm : mx.isSome = true := by rw [hy]; rfl
        rw [hsm] at e5 c4
        simp only [Bool.not_true, Bool.and_false, cond_false] at e5
        have rk : m ≤ len := Nat.le_of_ble_eq_true (by simpa using c4)
        obtain ⟨oD, e5⟩ := bV e5
        have oD : m < aU := Nat.le_of_ble_eq_true oD
        rw [bT, bT] at e5
        obtain ⟨v, q1, q2⟩ := Pw (k := fun v => k v h) (r := fun _ => true) (sz := i.size) hs oD c1 c2 (fun hp => (g4 (by omega)).1) e5
        exact fin (.inr ⟨y, kd, hy, Px⟩) c2 (by omega) q1 q2
theorem adn {t e' : TypeId} {x : Operand} {lo hi mx : Option Operand} {sz n : Nat} (ho : o.op = .slice t x lo hi mx) (hu : P.underlying t = some (.array n e')) (hz : dV P e' = some sz) (vT : mx.isSome = true → hi.isSome = true)
 (H : HR P w0 φ h w) (hv : LR φ vs ((x :: (lo.toList ++ hi.toList ++ mx.toList)).map ρ)) (e : AW n sz lo.isSome hi.isSome mx.isSome vs h k = true) : PR P w0 φ h ((execOp ρ o).run P w) fun v h' => k v h' = true := by
 obtain ⟨i, cz, rfl⟩ := kG hz
 cases vs with
 | nil => cases e
 | cons v vs =>
  simp only [List.map_cons] at hv
  cases hv with | cons _ v' _ l' hr hv =>
  have hv : LR φ vs ((lo.toList ++ (hi.toList ++ mx.toList)).map ρ) := by simpa using hv
  unfold AW at e
  dsimp only at e
  obtain ⟨a, al, e1⟩ := kF e; clear e; subst al
  obtain ⟨a', hx, hs, cw⟩ := hr.jx
  obtain ⟨l, EU, e2, qN, hl⟩ := pX e1 hv
  obtain ⟨hh, NQ, e3, mG, vE⟩ := pX (rest := mx.toList) e2 qN
  obtain ⟨m, vs3, e4, hv3, hm⟩ := pX (x := mx) (rest := []) e3 (by simpa using mG)
  obtain ⟨c1, e5⟩ := bV e4
  simp only [Bool.and_eq_true] at c1
  obtain ⟨⟨⟨_, c1⟩, c2⟩, c3⟩ := c1
  have c1 := Nat.le_of_ble_eq_true c1
  have c2 := Nat.le_of_ble_eq_true c2
  have c3 := Nat.le_of_ble_eq_true c3
  unfold q8 at e5
  rw [bT] at e5
  simp only [Bool.not_true, Bool.and_false, cond_false] at e5
  obtain ⟨oD, e5⟩ := bV e5
  have oD : m < aU := Nat.le_of_ble_eq_true oD
  rw [bT, bT] at e5
  obtain ⟨v, q1, q2⟩ := Pw (k := fun v => k v h) (r := fun _ => true) (sz := i.size) hs oD c1 c2 (fun _ => cw) e5
  have hb := Ga (P := P) (w := w) (isS := false) (len := n) (cap := n) (m := m) vT hl vE hm c1 c2 c3
  refine .same H (v' := .slice (if m = l then some a' else some (a'.add (l * i.size))) (hh - l) (m - l)) ?_ q2 q1
  simp only [execOp, ho, hx]
  simp only [Instr.sliceAt, Sem.run_bind, run_underlying hu, Result.andThen_ok, Instr.sureAddr]
  simp [hb, iJ cz]
  try (split <;> rfl)
end
end Go.Ve
