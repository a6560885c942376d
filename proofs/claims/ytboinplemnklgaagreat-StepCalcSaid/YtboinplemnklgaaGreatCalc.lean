/- What Calc gives, in the program and in the reference, and that StepCalc returns true. No condition. -/
import Derived.Test.YtboinplemnklgaaGreatCf
set_option linter.unusedVariables false
set_option linter.unusedSimpArgs false
namespace Go.Ve.T
open Go.Ve Go.Proofs
noncomputable section
set_option linter.unusedVariables false
set_option linter.unusedSimpArgs false

/-! ### plain arithmetic -/
abbrev MX : Int := 1099511627776
def inM (n : Int) : Bool := decide (-1099511627776 ≤ n) && decide (n ≤ 1099511627776)
theorem inM_iff {n : Int} : inM n = true ↔ -1099511627776 ≤ n ∧ n ≤ 1099511627776 := by unfold inM; simp
theorem inM_T {n : Int} (h1 : -1099511627776 ≤ n) (h2 : n ≤ 1099511627776) : inM n = true := inM_iff.2 ⟨h1, h2⟩
/-- rounded downwards -/
def flo (b c : Int) : Int := if b.tmod c ≠ 0 ∧ decide (b < 0) ≠ decide (c < 0) then b.tdiv c - 1 else b.tdiv c
theorem tdiv_le {b c : Int} (hb : -1099511627776 ≤ b) (hb' : b ≤ 1099511627776) : -1099511627776 ≤ b.tdiv c ∧ b.tdiv c ≤ 1099511627776 := by
  have h1 : (b.tdiv c).natAbs ≤ b.natAbs := by rw [Int.natAbs_tdiv]; exact Nat.div_le_self _ _
  omega
theorem tmod_neg_le {b : Int} (c : Int) (h : b ≤ 0) : b.tmod c ≤ 0 := by
  have := Int.tmod_nonneg c (show (0 : Int) ≤ -b by omega)
  rw [Int.neg_tmod] at this; omega
theorem flo_spec {b c : Int} (hc : c ≠ 0) : c * flo b c + (b - c * flo b c) = b ∧ (c > 0 → 0 ≤ b - c * flo b c ∧ b - c * flo b c < c) ∧ (c < 0 → b - c * flo b c ≤ 0 ∧ c < b - c * flo b c) := by
  have h1 := Int.mul_tdiv_add_tmod b c
  have h2 := Int.tmod_lt_of_pos
  refine ⟨by omega, fun hp => ?_, fun hn => ?_⟩
  · have a1 : b.tmod c < c := Int.tmod_lt_of_pos b hp
    have a2 : 0 ≤ b → 0 ≤ b.tmod c := fun h => Int.tmod_nonneg c h
    have a3 : b ≤ 0 → b.tmod c ≤ 0 := fun h => tmod_neg_le c h
    have a4 : -c < b.tmod c := by
      have := Int.lt_tmod_of_pos b hp; omega
    unfold flo
    split
    · rename_i hh
      obtain ⟨g1, g2⟩ := hh
      have hb : b < 0 := by
        have : decide (c < 0) = false := by simp; omega
        rw [this] at g2
        simpa using g2
      rw [Int.mul_sub, Int.mul_one]
      have := a3 (by omega)
      omega
    · rename_i hh
      have : b.tmod c = 0 ∨ 0 ≤ b := by
        rcases Classical.em (b.tmod c = 0) with h | h
        · exact .inl h
        · right
          have h3 : ¬ (decide (b < 0) ≠ decide (c < 0)) := fun e => hh ⟨h, e⟩
          have : decide (c < 0) = false := by simp; omega
          rw [this] at h3
          simpa using h3
      rcases this with h | h
      · omega
      · have := a2 h; omega
  · have a1 : b.tmod c < -c := by
      have := Int.tmod_lt_of_pos b (show (0 : Int) < -c by omega); rwa [Int.tmod_neg] at this
    have a2 : 0 ≤ b → 0 ≤ b.tmod c := fun h => Int.tmod_nonneg c h
    have a3 : b ≤ 0 → b.tmod c ≤ 0 := fun h => tmod_neg_le c h
    have a4 : c < b.tmod c := by
      have := Int.lt_tmod_of_pos b (show (0 : Int) < -c by omega)
      rw [Int.tmod_neg] at this; omega
    unfold flo
    split
    · rename_i hh
      obtain ⟨g1, g2⟩ := hh
      have hb : 0 ≤ b := by
        have : decide (c < 0) = true := by simp; omega
        rw [this] at g2
        simpa using g2
      rw [Int.mul_sub, Int.mul_one]
      have := a2 hb
      omega
    · rename_i hh
      have : b.tmod c = 0 ∨ b < 0 := by
        rcases Classical.em (b.tmod c = 0) with h | h
        · exact .inl h
        · right
          have h3 : ¬ (decide (b < 0) ≠ decide (c < 0)) := fun e => hh ⟨h, e⟩
          have : decide (c < 0) = true := by simp; omega
          rw [this] at h3
          simpa using h3
      rcases this with h | h
      · omega
      · have := a3 (by omega); omega
/-- a product is within the bounds where one factor is within what the other leaves -/
theorem mul_in {b c : Int} (hb : b ≠ 0) (h1 : -1099511627776 ≤ b) (h2 : b ≤ 1099511627776) : (c ≤ (1099511627776 : Int).tdiv (max b (0 - b)) ∧ 0 - (1099511627776 : Int).tdiv (max b (0 - b)) ≤ c) ↔ inM (b * c) = true := by
  rw [inM_iff]
  have key : ∀ a c : Int, 0 < a → ((c ≤ (1099511627776 : Int).tdiv a ∧ 0 - (1099511627776 : Int).tdiv a ≤ c) ↔ (-1099511627776 ≤ a * c ∧ a * c ≤ 1099511627776)) := by
    intro a c ha
    rw [Int.tdiv_eq_ediv_of_nonneg (by decide)]
    have e1 : c ≤ 1099511627776 / a ↔ c * a ≤ 1099511627776 := Int.le_ediv_iff_mul_le ha
    have e2 : -c ≤ 1099511627776 / a ↔ -c * a ≤ 1099511627776 := Int.le_ediv_iff_mul_le ha
    rw [Int.mul_comm a c]
    rw [Int.neg_mul] at e2
    omega
  rcases Int.lt_or_gt_of_ne hb with h | h
  · rw [show max b (0 - b) = -b by omega, key (-b) c (by omega), Int.neg_mul]; omega
  · rw [show max b (0 - b) = b by omega, key b c h]
theorem max_abs (b : Int) : max b (0 - b) = max (0 - b) b := Int.max_comm _ _

/-- what Calc gives -/
def calcV (op b c : Int) : Int × Int :=
  if op < 6 ∨ 10 < op then (0, 0)
  else if (inM b && inM c) = false then (0, 7)
  else if (op = 9 ∨ op = 10) ∧ c = 0 then (0, 8)
  else
    let n := if op = 6 then b + c else if op = 7 then b - c else if op = 8 then b * c else if op = 9 then flo b c else b - c * flo b c
    if inM n then (n, 0) else (0, 7)

/-! ### the walks -/
section
variable {w0 : World} {h : AH} {Q : CR → AH → Prop}
theorem within_ok (n : Int) (H : Q (.ret (.bool (inM n))) h) : WF PP w0 id_step_within [vi n] h Q := by
  refine step_within_wp _ ?_
  unfold inM at H
  simp only [step_within_F, pr, WP_leq]
  cases h1 : decide (-1099511627776 ≤ n) <;> simp only [h1, gd_T, gd_FT, gd_U, pr, WP_leq, WP_pick, cond_true, cond_false, Bool.true_and, Bool.false_and] at H ⊢ <;> exact H
theorem in_ok (n lo hi : Int) (H : Q (.ret (.bool (decide (lo ≤ n) && decide (n ≤ hi)))) h) : WF PP w0 id_cosignerref11_in [vi n, vi lo, vi hi] h Q := by
  refine cosignerref11_in_wp _ _ _ ?_
  simp only [cosignerref11_in_F, pr, WP_leq]
  cases h1 : decide (lo ≤ n) <;> simp only [h1, gd_T, gd_FT, gd_U, pr, WP_leq, WP_pick, cond_true, cond_false, Bool.true_and, Bool.false_and] at H ⊢ <;> exact H
theorem abs_ok (n : Int) (h1 : -1099511627776 ≤ n) (h2 : n ≤ 1099511627776) (H : Q (.ret (vi (max n (0 - n)))) h) : WF PP w0 id_cosignerref11_abs [vi n] h Q := by
  refine cosignerref11_abs_wp _ ?_
  simp only [cosignerref11_abs_F, pr, WP_neg, WP_max]
  rw [wrapQ_in (by omega) (by omega)]
  exact H
theorem floored_ok (b c : Int) (hc : c ≠ 0) (h1 : -1099511627776 ≤ b) (h2 : b ≤ 1099511627776) (H : Q (.ret (vi (flo b c))) h) : WF PP w0 id_step_floored [vi b, vi c] h Q := by
  refine step_floored_wp _ _ ?_
  have hb := tdiv_le (c := c) h1 h2
  unfold flo at H
  simp only [step_floored_F, step_floored_J1, pr, WP_quo hc, WP_rem hc, WP_neq]
  rw [wrapQ_in (by omega) (by omega)]
  by_cases e1 : b.tmod c = 0
  · simp only [e1, decide_true, Bool.not_true, gd_FT, gd_U, pr, WP_pick, cond_false, br_F, ne_eq, not_true, false_and, if_false] at H ⊢
    exact H
  · simp only [e1, decide_false, Bool.not_false, gd_T, pr, WP_lss, WP_neqB, WP_pick, cond_true] at H ⊢
    cases e2 : decide (b < 0) <;> cases e3 : decide (c < 0) <;> simp only [e2, e3, bne_self_eq_false, br_F, br_T, pr, WP_sub, ne_eq, not_true, not_false_iff, and_false, and_true, if_false, if_true, e1, Bool.true_bne, Bool.false_bne, Bool.not_false, Bool.not_true, reduceCtorEq, true_and] at H ⊢ <;> first | exact H | (rw [wrapQ_in (by omega) (by omega)]; exact H)
/-- the product, and whether it is one -/
theorem product_ok (b c : Int) (h1 : -1099511627776 ≤ b) (h2 : b ≤ 1099511627776) (h3 : -1099511627776 ≤ c) (h4 : c ≤ 1099511627776) (H : ∀ n, (inM (b * c) = true → n = b * c) → Q (.ret (.tuple ⟨[vi n, .bool (inM (b * c))]⟩)) h) : WF PP w0 id_step_product [vi b, vi c] h Q := by
  refine step_product_wp _ _ ?_
  by_cases e1 : b = 0
  · subst e1
    simp only [step_product_F, pr, WP_eql, decide_true, gd_TF, gd_U, WP_pick, cond_true, br_T]
    have := H 0 (fun _ => by rw [Int.zero_mul])
    rw [Int.zero_mul, show inM 0 = true from rfl] at this
    exact this
  · by_cases e2 : c = 0
    · subst e2
      simp only [step_product_F, pr, WP_eql, e1, decide_true, decide_false, gd_F, gd_TF, gd_U, WP_pick, cond_true, cond_false, br_T]
      have := H 0 (fun _ => by rw [Int.mul_zero])
      rw [Int.mul_zero, show inM 0 = true from rfl] at this
      exact this
    · have hm := mul_in (c := c) e1 h1 h2
      have hq := tdiv_le (b := 1099511627776) (c := max b (0 - b)) (by decide) (by decide)
      simp only [step_product_F, step_product_J1, step_product_J2, pr, WP_eql, e1, e2, decide_false, gd_F, WP_pick, cond_false, br_F, WP_neg]
      rw [wrapQ_in (n := 0 - b) (by omega) (by omega)]
      simp only [pr, WP_max, WP_quo (show max b (0 - b) ≠ 0 by omega)]
      rw [wrapQ_in (by omega) (by omega)]
      generalize (1099511627776 : Int).tdiv (max b (0 - b)) = q at hm hq ⊢
      simp only [pr, WP_gtr]
      by_cases e3 : q < c
      · have hf : inM (b * c) = false := by
          cases hh : inM (b * c) with
          | false => rfl
          | true => have := hm.2 hh; omega
        simp only [pr, e3, decide_true, gd_TF, gd_U, WP_pick, cond_true, br_T]
        have := H 0 (fun hh => by rw [hf] at hh; cases hh)
        rw [hf] at this
        exact this
      · simp only [e3, decide_false, gd_F, pr, WP_neg, WP_lss]
        rw [wrapQ_in (by omega) (by omega)]
        by_cases e4 : c < 0 - q
        · have hf : inM (b * c) = false := by
            cases hh : inM (b * c) with
            | false => rfl
            | true => have := hm.2 hh; omega
          simp only [e4, decide_true, WP_pick, cond_false, br_T]
          have := H 0 (fun hh => by rw [hf] at hh; cases hh)
          rw [hf] at this
          exact this
        · have hf : inM (b * c) = true := hm.1 (by omega)
          have hb := inM_iff.1 hf
          simp only [e4, decide_false, WP_pick, cond_false, br_F, pr, WP_mul]
          rw [wrapQ_in (by omega) (by omega)]
          have := H (b * c) (fun _ => rfl)
          rw [hf] at this
          exact this

theorem calc_tail (n : Int) (is : Bool) (H : Q (.ret (if is && inM n then .tuple ⟨[vi n, vi 0]⟩ else .tuple ⟨[vi 0, vi 7]⟩)) h) : step_Calc_J2 w0 (fun v h => Q (.pan v) h) (fun v h => Q (.ret v) h) (vi n) (.bool is) h := by
  unfold step_Calc_J2
  cases is with
  | false => simp only [pr, cl, gd_T, gd_F, gd_TF, gd_FT, gd_U, br_T, br_F, cond_true, cond_false, WP_eql, WP_neq, WP_lss, WP_leq, WP_gtr, WP_geq, WP_notB, WP_pick, decide_true, decide_false, Bool.not_true, Bool.not_false]; simpa using H
  | true =>
    simp only [pr, cl, gd_T, gd_F, gd_TF, gd_FT, gd_U, br_T, br_F, cond_true, cond_false, WP_eql, WP_neq, WP_lss, WP_leq, WP_gtr, WP_geq, WP_notB, WP_pick, decide_true, decide_false, Bool.not_true, Bool.not_false]
    refine within_ok _ ?_
    cases h1 : inM n with
    | true => simp only [pr, cl, gd_T, gd_F, gd_TF, gd_FT, gd_U, br_T, br_F, cond_true, cond_false, WP_eql, WP_neq, WP_lss, WP_leq, WP_gtr, WP_geq, WP_notB, WP_pick, decide_true, decide_false, Bool.not_true, Bool.not_false, step_Calc_J3]; simpa [h1] using H
    | false => simp only [pr, cl, gd_T, gd_F, gd_TF, gd_FT, gd_U, br_T, br_F, cond_true, cond_false, WP_eql, WP_neq, WP_lss, WP_leq, WP_gtr, WP_geq, WP_notB, WP_pick, decide_true, decide_false, Bool.not_true, Bool.not_false]; simpa [h1] using H
theorem ext2 {a b : Value} {R : Value → AH → Prop} : (WP (.extract 0) [.tuple ⟨[a, b]⟩] h R ↔ R a h) ∧ (WP (.extract 1) [.tuple ⟨[a, b]⟩] h R ↔ R b h) := ⟨WP_extract rfl, WP_extract rfl⟩
def calcR (op b c : Int) : Value := .tuple ⟨[vi (calcV op b c).1, vi (calcV op b c).2]⟩
theorem calc_part (op b c : Int) (hop : 6 ≤ op ∧ op ≤ 10) (H : Q (.ret (calcR op b c)) h) : step_Calc_J13 w0 (fun v h => Q (.pan v) h) (fun v h => Q (.ret v) h) (vi b) (vi c) (vi op) (.bool true) h := by
  unfold calcR calcV at H
  rw [if_neg (by omega)] at H
  simp only [step_Calc_J13, pr, cl, gd_T, gd_F, gd_TF, gd_FT, gd_U, br_T, br_F, cond_true, cond_false, WP_eql, WP_neq, WP_lss, WP_leq, WP_gtr, WP_geq, WP_notB, WP_pick, decide_true, decide_false, Bool.not_true, Bool.not_false]
  refine within_ok _ ?_
  cases h1 : inM b with
  | false => simp only [pr, cl, gd_T, gd_F, gd_TF, gd_FT, gd_U, br_T, br_F, cond_true, cond_false, WP_eql, WP_neq, WP_lss, WP_leq, WP_gtr, WP_geq, WP_notB, WP_pick, decide_true, decide_false, Bool.not_true, Bool.not_false, h1, Bool.false_and, if_true] at H ⊢; exact H
  | true =>
    simp only [pr, cl, gd_T, gd_F, gd_TF, gd_FT, gd_U, br_T, br_F, cond_true, cond_false, WP_eql, WP_neq, WP_lss, WP_leq, WP_gtr, WP_geq, WP_notB, WP_pick, decide_true, decide_false, Bool.not_true, Bool.not_false]
    refine within_ok _ ?_
    cases h2 : inM c with
    | false => simp only [pr, cl, gd_T, gd_F, gd_TF, gd_FT, gd_U, br_T, br_F, cond_true, cond_false, WP_eql, WP_neq, WP_lss, WP_leq, WP_gtr, WP_geq, WP_notB, WP_pick, decide_true, decide_false, Bool.not_true, Bool.not_false, h1, h2, Bool.true_and, if_true] at H ⊢; exact H
    | true =>
      have hb := inM_iff.1 h1
      have hc := inM_iff.1 h2
      simp only [h1, h2, Bool.and_self, Bool.true_eq_false, if_false] at H
      simp only [pr, cl, gd_T, gd_F, gd_TF, gd_FT, gd_U, br_T, br_F, cond_true, cond_false, WP_eql, WP_neq, WP_lss, WP_leq, WP_gtr, WP_geq, WP_notB, WP_pick, decide_true, decide_false, Bool.not_true, Bool.not_false, step_Calc_J1]
      by_cases e7 : op = 7
      · subst e7
        simp only [pr, cl, gd_T, gd_F, gd_TF, gd_FT, gd_U, br_T, br_F, cond_true, cond_false, WP_eql, WP_neq, WP_lss, WP_leq, WP_gtr, WP_geq, WP_notB, WP_pick, decide_true, decide_false, Bool.not_true, Bool.not_false, step_Calc_J8, step_Calc_J7, WP_neg]
        rw [wrapQ_in (by omega) (by omega)]
        simp only [pr, cl, gd_T, gd_F, gd_TF, gd_FT, gd_U, br_T, br_F, cond_true, cond_false, WP_eql, WP_neq, WP_lss, WP_leq, WP_gtr, WP_geq, WP_notB, WP_pick, decide_true, decide_false, Bool.not_true, Bool.not_false, WP_add]
        rw [wrapQ_in (by omega) (by omega)]
        refine calc_tail _ _ ?_
        rw [show b + (0 - c) = b - c by omega]
        cases h3 : inM (b - c) <;> simpa [h3] using H
      · simp only [e7, pr, cl, gd_T, gd_F, gd_TF, gd_FT, gd_U, br_T, br_F, cond_true, cond_false, WP_eql, WP_neq, WP_lss, WP_leq, WP_gtr, WP_geq, WP_notB, WP_pick, decide_true, decide_false, Bool.not_true, Bool.not_false, step_Calc_J9]
        by_cases e6 : op = 6
        · subst e6
          simp only [pr, cl, gd_T, gd_F, gd_TF, gd_FT, gd_U, br_T, br_F, cond_true, cond_false, WP_eql, WP_neq, WP_lss, WP_leq, WP_gtr, WP_geq, WP_notB, WP_pick, decide_true, decide_false, Bool.not_true, Bool.not_false, step_Calc_J7, WP_add]
          rw [wrapQ_in (by omega) (by omega)]
          refine calc_tail _ _ ?_
          cases h3 : inM (b + c) <;> simpa [h3] using H
        · simp only [e6, pr, cl, gd_T, gd_F, gd_TF, gd_FT, gd_U, br_T, br_F, cond_true, cond_false, WP_eql, WP_neq, WP_lss, WP_leq, WP_gtr, WP_geq, WP_notB, WP_pick, decide_true, decide_false, Bool.not_true, Bool.not_false, step_Calc_J10]
          by_cases e8 : op = 8
          · subst e8
            simp only [pr, cl, gd_T, gd_F, gd_TF, gd_FT, gd_U, br_T, br_F, cond_true, cond_false, WP_eql, WP_neq, WP_lss, WP_leq, WP_gtr, WP_geq, WP_notB, WP_pick, decide_true, decide_false, Bool.not_true, Bool.not_false, step_Calc_J6]
            refine product_ok b c hb.1 hb.2 hc.1 hc.2 fun n hn => ?_
            simp only [pr, cl, gd_T, gd_F, gd_TF, gd_FT, gd_U, br_T, br_F, cond_true, cond_false, WP_eql, WP_neq, WP_lss, WP_leq, WP_gtr, WP_geq, WP_notB, WP_pick, decide_true, decide_false, Bool.not_true, Bool.not_false, ext2.1, ext2.2]
            refine calc_tail _ _ ?_
            cases h3 : inM (b * c) with
            | false => simpa [h3] using H
            | true => have := hn h3; subst this; simpa [h3] using H
          · have key : step_Calc_J12 w0 (fun v h => Q (.pan v) h) (fun v h => Q (.ret v) h) (vi b) (vi op) (vi c) (.bool true) h := by
              have h910 : op = 9 ∨ op = 10 := by omega
              simp only [pr, cl, gd_T, gd_F, gd_TF, gd_FT, gd_U, br_T, br_F, cond_true, cond_false, WP_eql, WP_neq, WP_lss, WP_leq, WP_gtr, WP_geq, WP_notB, WP_pick, decide_true, decide_false, Bool.not_true, Bool.not_false, step_Calc_J12, step_Calc_J4]
              by_cases e0 : c = 0
              · subst e0
                simp only [pr, cl, gd_T, gd_F, gd_TF, gd_FT, gd_U, br_T, br_F, cond_true, cond_false, WP_eql, WP_neq, WP_lss, WP_leq, WP_gtr, WP_geq, WP_notB, WP_pick, decide_true, decide_false, Bool.not_true, Bool.not_false]
                simpa [h910] using H
              · simp only [e0, pr, cl, gd_T, gd_F, gd_TF, gd_FT, gd_U, br_T, br_F, cond_true, cond_false, WP_eql, WP_neq, WP_lss, WP_leq, WP_gtr, WP_geq, WP_notB, WP_pick, decide_true, decide_false, Bool.not_true, Bool.not_false, step_Calc_J5]
                refine floored_ok b c e0 hb.1 hb.2 ?_
                have hs := flo_spec (b := b) e0
                have hn : -1099511627777 ≤ flo b c ∧ flo b c ≤ 1099511627776 := by
                  have := tdiv_le (c := c) hb.1 hb.2
                  unfold flo; split <;> omega
                by_cases e10 : op = 10
                · subst e10
                  have hr : -1099511627776 ≤ b - c * flo b c ∧ b - c * flo b c ≤ 1099511627776 := by
                    rcases Int.lt_or_gt_of_ne e0 with h | h
                    · have := hs.2.2 h; omega
                    · have := hs.2.1 h; omega
                  simp only [pr, cl, gd_T, gd_F, gd_TF, gd_FT, gd_U, br_T, br_F, cond_true, cond_false, WP_eql, WP_neq, WP_lss, WP_leq, WP_gtr, WP_geq, WP_notB, WP_pick, decide_true, decide_false, Bool.not_true, Bool.not_false, WP_mul, WP_sub]
                  rw [wrapQ_in (n := c * flo b c) (by omega) (by omega)]
                  rw [wrapQ_in (by omega) (by omega)]
                  refine calc_tail _ _ ?_
                  cases h3 : inM (b - c * flo b c) <;> simpa [h3, e0] using H
                · have e9 : op = 9 := by omega
                  subst e9
                  simp only [e10, pr, cl, gd_T, gd_F, gd_TF, gd_FT, gd_U, br_T, br_F, cond_true, cond_false, WP_eql, WP_neq, WP_lss, WP_leq, WP_gtr, WP_geq, WP_notB, WP_pick, decide_true, decide_false, Bool.not_true, Bool.not_false]
                  refine calc_tail _ _ ?_
                  cases h3 : inM (flo b c) <;> simpa [h3, e0] using H
            simp only [e8, pr, cl, gd_T, gd_F, gd_TF, gd_FT, gd_U, br_T, br_F, cond_true, cond_false, WP_eql, WP_neq, WP_lss, WP_leq, WP_gtr, WP_geq, WP_notB, WP_pick, decide_true, decide_false, Bool.not_true, Bool.not_false, step_Calc_J11]
            by_cases e9 : op = 9
            · subst e9; simp only [pr, cl, gd_T, gd_F, gd_TF, gd_FT, gd_U, br_T, br_F, cond_true, cond_false, WP_eql, WP_neq, WP_lss, WP_leq, WP_gtr, WP_geq, WP_notB, WP_pick, decide_true, decide_false, Bool.not_true, Bool.not_false]; exact key
            · have e10 : op = 10 := by omega
              subst e10; simp only [pr, cl, gd_T, gd_F, gd_TF, gd_FT, gd_U, br_T, br_F, cond_true, cond_false, WP_eql, WP_neq, WP_lss, WP_leq, WP_gtr, WP_geq, WP_notB, WP_pick, decide_true, decide_false, Bool.not_true, Bool.not_false, show ¬ ((10 : Int) = 9) by decide]; exact key
/-- what Calc gives -/
theorem Calc_ok (op b c : Int) (H : Q (.ret (calcR op b c)) h) : WF PP w0 id_step_Calc [vi op, vi b, vi c] h Q := by
  refine step_Calc_wp _ _ _ ?_
  simp only [step_Calc_F, pr, cl, gd_T, gd_F, gd_TF, gd_FT, gd_U, br_T, br_F, cond_true, cond_false, WP_eql, WP_neq, WP_lss, WP_leq, WP_gtr, WP_geq, WP_notB, WP_pick, decide_true, decide_false, Bool.not_true, Bool.not_false]
  by_cases e6 : op = 6
  · subst e6; simp only [pr, cl, gd_T, gd_F, gd_TF, gd_FT, gd_U, br_T, br_F, cond_true, cond_false, WP_eql, WP_neq, WP_lss, WP_leq, WP_gtr, WP_geq, WP_notB, WP_pick, decide_true, decide_false, Bool.not_true, Bool.not_false]; exact calc_part 6 b c (by decide) H
  by_cases e7 : op = 7
  · subst e7; simp only [pr, cl, gd_T, gd_F, gd_TF, gd_FT, gd_U, br_T, br_F, cond_true, cond_false, WP_eql, WP_neq, WP_lss, WP_leq, WP_gtr, WP_geq, WP_notB, WP_pick, decide_true, decide_false, Bool.not_true, Bool.not_false, show ¬ ((7 : Int) = 6) by decide]; exact calc_part 7 b c (by decide) H
  by_cases e8 : op = 8
  · subst e8; simp only [pr, cl, gd_T, gd_F, gd_TF, gd_FT, gd_U, br_T, br_F, cond_true, cond_false, WP_eql, WP_neq, WP_lss, WP_leq, WP_gtr, WP_geq, WP_notB, WP_pick, decide_true, decide_false, Bool.not_true, Bool.not_false, show ¬ ((8 : Int) = 6) by decide, show ¬ ((8 : Int) = 7) by decide]; exact calc_part 8 b c (by decide) H
  by_cases e9 : op = 9
  · subst e9; simp only [pr, cl, gd_T, gd_F, gd_TF, gd_FT, gd_U, br_T, br_F, cond_true, cond_false, WP_eql, WP_neq, WP_lss, WP_leq, WP_gtr, WP_geq, WP_notB, WP_pick, decide_true, decide_false, Bool.not_true, Bool.not_false, show ¬ ((9 : Int) = 6) by decide, show ¬ ((9 : Int) = 7) by decide, show ¬ ((9 : Int) = 8) by decide]; exact calc_part 9 b c (by decide) H
  by_cases e10 : op = 10
  · subst e10; simp only [pr, cl, gd_T, gd_F, gd_TF, gd_FT, gd_U, br_T, br_F, cond_true, cond_false, WP_eql, WP_neq, WP_lss, WP_leq, WP_gtr, WP_geq, WP_notB, WP_pick, decide_true, decide_false, Bool.not_true, Bool.not_false, show ¬ ((10 : Int) = 6) by decide, show ¬ ((10 : Int) = 7) by decide, show ¬ ((10 : Int) = 8) by decide, show ¬ ((10 : Int) = 9) by decide]; exact calc_part 10 b c (by decide) H
  · simp only [e6, e7, e8, e9, e10, pr, cl, gd_T, gd_F, gd_TF, gd_FT, gd_U, br_T, br_F, cond_true, cond_false, WP_eql, WP_neq, WP_lss, WP_leq, WP_gtr, WP_geq, WP_notB, WP_pick, decide_true, decide_false, Bool.not_true, Bool.not_false, step_Calc_J13, step_Calc_J1, step_Calc_J9, step_Calc_J10, step_Calc_J11, step_Calc_J12]
    refine calc_tail _ _ ?_
    unfold calcR calcV at H
    rw [if_pos (by omega)] at H
    simpa [show inM 0 = true from rfl] using H

/-! the reference -/
theorem rcalc_tail (n : Int) (H : Q (.ret (if inM n then .tuple ⟨[vi n, vi 0]⟩ else .tuple ⟨[vi 0, vi 7]⟩)) h) : cosignerref11_Calc_J3 w0 (fun v h => Q (.pan v) h) (fun v h => Q (.ret v) h) (vi n) h := by
  unfold cosignerref11_Calc_J3
  simp only [pr, cl, gd_T, gd_F, gd_TF, gd_FT, gd_U, br_T, br_F, cond_true, cond_false, WP_eql, WP_neq, WP_lss, WP_leq, WP_gtr, WP_geq, WP_notB, WP_pick, decide_true, decide_false, Bool.not_true, Bool.not_false]
  refine in_ok _ _ _ ?_
  change _ at H
  cases h1 : inM n with
  | true => unfold inM at h1; simp only [h1, pr, cl, gd_T, gd_F, gd_TF, gd_FT, gd_U, br_T, br_F, cond_true, cond_false, WP_eql, WP_neq, WP_lss, WP_leq, WP_gtr, WP_geq, WP_notB, WP_pick, decide_true, decide_false, Bool.not_true, Bool.not_false, cosignerref11_Calc_J4]; simpa [inM, h1] using H
  | false => unfold inM at h1; simp only [h1, pr, cl, gd_T, gd_F, gd_TF, gd_FT, gd_U, br_T, br_F, cond_true, cond_false, WP_eql, WP_neq, WP_lss, WP_leq, WP_gtr, WP_geq, WP_notB, WP_pick, decide_true, decide_false, Bool.not_true, Bool.not_false]; simpa [inM, h1] using H
theorem RCalc_ok (op b c : Int) (H : Q (.ret (calcR op b c)) h) : WF PP w0 id_cosignerref11_Calc [vi op, vi b, vi c] h Q := by
  refine cosignerref11_Calc_wp _ _ _ ?_
  simp only [cosignerref11_Calc_F, pr, cl, gd_T, gd_F, gd_TF, gd_FT, gd_U, br_T, br_F, cond_true, cond_false, WP_eql, WP_neq, WP_lss, WP_leq, WP_gtr, WP_geq, WP_notB, WP_pick, decide_true, decide_false, Bool.not_true, Bool.not_false]
  refine in_ok _ _ _ ?_
  by_cases hop : 6 ≤ op ∧ op ≤ 10
  · have e1 : (decide (6 ≤ op) && decide (op ≤ 10)) = true := by simp [hop]
    unfold calcR calcV at H
    rw [if_neg (by omega)] at H
    simp only [e1, pr, cl, gd_T, gd_F, gd_TF, gd_FT, gd_U, br_T, br_F, cond_true, cond_false, WP_eql, WP_neq, WP_lss, WP_leq, WP_gtr, WP_geq, WP_notB, WP_pick, decide_true, decide_false, Bool.not_true, Bool.not_false, cosignerref11_Calc_J1]
    refine in_ok _ _ _ ?_
    change _ at H
    rw [show (decide (-1099511627776 ≤ b) && decide (b ≤ 1099511627776)) = inM b from rfl]
    cases h1 : inM b with
    | false => simp only [pr, cl, gd_T, gd_F, gd_TF, gd_FT, gd_U, br_T, br_F, cond_true, cond_false, WP_eql, WP_neq, WP_lss, WP_leq, WP_gtr, WP_geq, WP_notB, WP_pick, decide_true, decide_false, Bool.not_true, Bool.not_false, h1, Bool.false_and, if_true] at H ⊢; exact H
    | true =>
      simp only [pr, cl, gd_T, gd_F, gd_TF, gd_FT, gd_U, br_T, br_F, cond_true, cond_false, WP_eql, WP_neq, WP_lss, WP_leq, WP_gtr, WP_geq, WP_notB, WP_pick, decide_true, decide_false, Bool.not_true, Bool.not_false]
      refine in_ok _ _ _ ?_
      rw [show (decide (-1099511627776 ≤ c) && decide (c ≤ 1099511627776)) = inM c from rfl]
      cases h2 : inM c with
      | false => simp only [pr, cl, gd_T, gd_F, gd_TF, gd_FT, gd_U, br_T, br_F, cond_true, cond_false, WP_eql, WP_neq, WP_lss, WP_leq, WP_gtr, WP_geq, WP_notB, WP_pick, decide_true, decide_false, Bool.not_true, Bool.not_false, h1, h2, Bool.true_and, if_true] at H ⊢; exact H
      | true =>
        have hb := inM_iff.1 h1
        have hc := inM_iff.1 h2
        simp only [h1, h2, Bool.and_self, Bool.true_eq_false, if_false] at H
        simp only [pr, cl, gd_T, gd_F, gd_TF, gd_FT, gd_U, br_T, br_F, cond_true, cond_false, WP_eql, WP_neq, WP_lss, WP_leq, WP_gtr, WP_geq, WP_notB, WP_pick, decide_true, decide_false, Bool.not_true, Bool.not_false, cosignerref11_Calc_J2]
        by_cases e6 : op = 6
        · subst e6
          simp only [pr, cl, gd_T, gd_F, gd_TF, gd_FT, gd_U, br_T, br_F, cond_true, cond_false, WP_eql, WP_neq, WP_lss, WP_leq, WP_gtr, WP_geq, WP_notB, WP_pick, decide_true, decide_false, Bool.not_true, Bool.not_false, WP_add]
          rw [wrapQ_in (by omega) (by omega)]
          refine rcalc_tail _ ?_
          cases h3 : inM (b + c) <;> simpa [h3] using H
        · by_cases e7 : op = 7
          · subst e7
            simp only [e6, pr, cl, gd_T, gd_F, gd_TF, gd_FT, gd_U, br_T, br_F, cond_true, cond_false, WP_eql, WP_neq, WP_lss, WP_leq, WP_gtr, WP_geq, WP_notB, WP_pick, decide_true, decide_false, Bool.not_true, Bool.not_false, WP_sub]
            rw [wrapQ_in (by omega) (by omega)]
            refine rcalc_tail _ ?_
            cases h3 : inM (b - c) <;> simpa [h3] using H
          · by_cases e8 : op = 8
            · subst e8
              simp only [e6, e7, pr, cl, gd_T, gd_F, gd_TF, gd_FT, gd_U, br_T, br_F, cond_true, cond_false, WP_eql, WP_neq, WP_lss, WP_leq, WP_gtr, WP_geq, WP_notB, WP_pick, decide_true, decide_false, Bool.not_true, Bool.not_false]
              by_cases e0 : c = 0
              · subst e0
                simp only [pr, cl, gd_T, gd_F, gd_TF, gd_FT, gd_U, br_T, br_F, cond_true, cond_false, WP_eql, WP_neq, WP_lss, WP_leq, WP_gtr, WP_geq, WP_notB, WP_pick, decide_true, decide_false, Bool.not_true, Bool.not_false, cosignerref11_Calc_J5, WP_mul]
                rw [Int.mul_zero, wrapQ_in (by omega) (by omega)]
                refine rcalc_tail _ ?_
                simpa [show inM 0 = true from rfl] using H
              · have hm := mul_in (b := c) (c := b) e0 hc.1 hc.2
                have hq := tdiv_le (b := 1099511627776) (c := max c (0 - c)) (by decide) (by decide)
                simp only [e0, pr, cl, gd_T, gd_F, gd_TF, gd_FT, gd_U, br_T, br_F, cond_true, cond_false, WP_eql, WP_neq, WP_lss, WP_leq, WP_gtr, WP_geq, WP_notB, WP_pick, decide_true, decide_false, Bool.not_true, Bool.not_false]
                refine abs_ok _ hc.1 hc.2 ?_
                simp only [pr, cl, gd_T, gd_F, gd_TF, gd_FT, gd_U, br_T, br_F, cond_true, cond_false, WP_eql, WP_neq, WP_lss, WP_leq, WP_gtr, WP_geq, WP_notB, WP_pick, decide_true, decide_false, Bool.not_true, Bool.not_false, WP_quo (show max c (0 - c) ≠ 0 by omega)]
                rw [wrapQ_in (by omega) (by omega)]
                generalize hqq : (1099511627776 : Int).tdiv (max c (0 - c)) = q at hm hq ⊢
                have hmul : inM (c * b) = inM (b * c) := by rw [Int.mul_comm]
                rw [hmul] at hm
                by_cases e3 : q < b
                · have hf : inM (b * c) = false := by
                    cases hh : inM (b * c) with
                    | false => rfl
                    | true => have := hm.2 hh; omega
                  simp only [e3, pr, cl, gd_T, gd_F, gd_TF, gd_FT, gd_U, br_T, br_F, cond_true, cond_false, WP_eql, WP_neq, WP_lss, WP_leq, WP_gtr, WP_geq, WP_notB, WP_pick, decide_true, decide_false, Bool.not_true, Bool.not_false]
                  simpa [hf] using H
                · simp only [e3, pr, cl, gd_T, gd_F, gd_TF, gd_FT, gd_U, br_T, br_F, cond_true, cond_false, WP_eql, WP_neq, WP_lss, WP_leq, WP_gtr, WP_geq, WP_notB, WP_pick, decide_true, decide_false, Bool.not_true, Bool.not_false, WP_neg]
                  rw [wrapQ_in (by omega) (by omega)]
                  refine abs_ok _ hc.1 hc.2 ?_
                  simp only [pr, cl, gd_T, gd_F, gd_TF, gd_FT, gd_U, br_T, br_F, cond_true, cond_false, WP_eql, WP_neq, WP_lss, WP_leq, WP_gtr, WP_geq, WP_notB, WP_pick, decide_true, decide_false, Bool.not_true, Bool.not_false, WP_quo (show max c (0 - c) ≠ 0 by omega)]
                  rw [wrapQ_in (by omega) (by omega), hqq]
                  by_cases e4 : q < 0 - b
                  · have hf : inM (b * c) = false := by
                      cases hh : inM (b * c) with
                      | false => rfl
                      | true => have := hm.2 hh; omega
                    simp only [e4, pr, cl, gd_T, gd_F, gd_TF, gd_FT, gd_U, br_T, br_F, cond_true, cond_false, WP_eql, WP_neq, WP_lss, WP_leq, WP_gtr, WP_geq, WP_notB, WP_pick, decide_true, decide_false, Bool.not_true, Bool.not_false]
                    simpa [hf] using H
                  · have hf : inM (b * c) = true := hm.1 (by omega)
                    have hbc := inM_iff.1 hf
                    simp only [e4, pr, cl, gd_T, gd_F, gd_TF, gd_FT, gd_U, br_T, br_F, cond_true, cond_false, WP_eql, WP_neq, WP_lss, WP_leq, WP_gtr, WP_geq, WP_notB, WP_pick, decide_true, decide_false, Bool.not_true, Bool.not_false, cosignerref11_Calc_J5, WP_mul]
                    rw [wrapQ_in (by omega) (by omega)]
                    refine rcalc_tail _ ?_
                    simpa [hf] using H
            · have h910 : op = 9 ∨ op = 10 := by omega
              simp only [e6, e7, e8, pr, cl, gd_T, gd_F, gd_TF, gd_FT, gd_U, br_T, br_F, cond_true, cond_false, WP_eql, WP_neq, WP_lss, WP_leq, WP_gtr, WP_geq, WP_notB, WP_pick, decide_true, decide_false, Bool.not_true, Bool.not_false]
              by_cases e0 : c = 0
              · subst e0
                simp only [pr, cl, gd_T, gd_F, gd_TF, gd_FT, gd_U, br_T, br_F, cond_true, cond_false, WP_eql, WP_neq, WP_lss, WP_leq, WP_gtr, WP_geq, WP_notB, WP_pick, decide_true, decide_false, Bool.not_true, Bool.not_false]
                simpa [h910] using H
              · have hs := flo_spec (b := b) e0
                have hd := tdiv_le (c := c) hb.1 hb.2
                have hn : -1099511627777 ≤ flo b c ∧ flo b c ≤ 1099511627776 := by unfold flo; split <;> omega
                have key : cosignerref11_Calc_J7 w0 (fun v h => Q (.pan v) h) (fun v h => Q (.ret v) h) (vi op) (vi c) (vi b) (vi (flo b c)) h := by
                  unfold cosignerref11_Calc_J7
                  by_cases e10 : op = 10
                  · subst e10
                    have hr : -1099511627776 ≤ b - c * flo b c ∧ b - c * flo b c ≤ 1099511627776 := by
                      rcases Int.lt_or_gt_of_ne e0 with h | h
                      · have := hs.2.2 h; omega
                      · have := hs.2.1 h; omega
                    simp only [pr, cl, gd_T, gd_F, gd_TF, gd_FT, gd_U, br_T, br_F, cond_true, cond_false, WP_eql, WP_neq, WP_lss, WP_leq, WP_gtr, WP_geq, WP_notB, WP_pick, decide_true, decide_false, Bool.not_true, Bool.not_false, WP_mul, WP_sub]
                    rw [wrapQ_in (n := c * flo b c) (by omega) (by omega)]
                    rw [wrapQ_in (by omega) (by omega)]
                    refine rcalc_tail _ ?_
                    cases h3 : inM (b - c * flo b c) <;> simpa [h3, e0] using H
                  · have e9 : op = 9 := by omega
                    subst e9
                    simp only [e10, pr, cl, gd_T, gd_F, gd_TF, gd_FT, gd_U, br_T, br_F, cond_true, cond_false, WP_eql, WP_neq, WP_lss, WP_leq, WP_gtr, WP_geq, WP_notB, WP_pick, decide_true, decide_false, Bool.not_true, Bool.not_false]
                    refine rcalc_tail _ ?_
                    cases h3 : inM (flo b c) <;> simpa [h3, e0] using H
                simp only [e0, pr, cl, gd_T, gd_F, gd_TF, gd_FT, gd_U, br_T, br_F, cond_true, cond_false, WP_eql, WP_neq, WP_lss, WP_leq, WP_gtr, WP_geq, WP_notB, WP_pick, decide_true, decide_false, Bool.not_true, Bool.not_false, cosignerref11_Calc_J6, WP_quo e0, WP_rem e0]
                rw [wrapQ_in (by omega) (by omega)]
                unfold flo at key
                by_cases e1 : b.tmod c = 0
                · simp only [e1, pr, cl, gd_T, gd_F, gd_TF, gd_FT, gd_U, br_T, br_F, cond_true, cond_false, WP_eql, WP_neq, WP_lss, WP_leq, WP_gtr, WP_geq, WP_notB, WP_pick, decide_true, decide_false, Bool.not_true, Bool.not_false, ne_eq, not_true, false_and, if_false] at key ⊢
                  exact key
                · simp only [e1, pr, cl, gd_T, gd_F, gd_TF, gd_FT, gd_U, br_T, br_F, cond_true, cond_false, WP_eql, WP_neq, WP_lss, WP_leq, WP_gtr, WP_geq, WP_notB, WP_pick, decide_true, decide_false, Bool.not_true, Bool.not_false, WP_neqB] at key ⊢
                  cases e2 : decide (b < 0) <;> cases e3 : decide (c < 0) <;> simp only [e2, e3, pr, cl, gd_T, gd_F, gd_TF, gd_FT, gd_U, br_T, br_F, cond_true, cond_false, WP_eql, WP_neq, WP_lss, WP_leq, WP_gtr, WP_geq, WP_notB, WP_pick, decide_true, decide_false, Bool.not_true, Bool.not_false, bne_self_eq_false, WP_sub, ne_eq, not_true, not_false_iff, and_false, and_true, if_false, if_true, e1, Bool.true_bne, Bool.false_bne, reduceCtorEq, true_and] at key ⊢ <;> first | exact key | (rw [wrapQ_in (by omega) (by omega)]; exact key)
  · have e1 : (decide (6 ≤ op) && decide (op ≤ 10)) = false := by
      cases hh : (decide (6 ≤ op) && decide (op ≤ 10)) with
      | false => rfl
      | true => simp at hh; omega
    simp only [e1, pr, cl, gd_T, gd_F, gd_TF, gd_FT, gd_U, br_T, br_F, cond_true, cond_false, WP_eql, WP_neq, WP_lss, WP_leq, WP_gtr, WP_geq, WP_notB, WP_pick, decide_true, decide_false, Bool.not_true, Bool.not_false]
    unfold calcR calcV at H
    rw [if_pos (by omega)] at H
    exact H

theorem calcV_div {b c : Int} (h0 : (calcV 9 b c).2 = 0) (h1 : (calcV 10 b c).2 = 0) : c ≠ 0 ∧ (calcV 9 b c).1 = flo b c ∧ (calcV 10 b c).1 = b - c * flo b c ∧ inM b = true ∧ inM c = true ∧ inM (flo b c) = true := by
  unfold calcV at *
  rw [if_neg (by omega)] at *
  cases e1 : (inM b && inM c) with
  | false => rw [if_pos e1] at h0; cases h0
  | true =>
    simp only [e1, Bool.true_eq_false, if_false] at h0 h1 ⊢
    by_cases e0 : c = 0
    · simp [e0] at h0
    · simp only [e0, and_false, if_false] at h0 h1 ⊢
      have e2 : inM b = true ∧ inM c = true := by simpa using e1
      cases e3 : inM (flo b c) with
      | false => simp [e3] at h0
      | true =>
        cases e4 : inM (b - c * flo b c) with
        | false => simp [e4] at h1
        | true => exact ⟨e0, by simp [e3], by simp [e4], e2.1, e2.2, rfl⟩
/-- the law, where 'head' gives true -/
theorem StepCalc_ok (op b c : Int) (hhead : ∀ (h : AH) (R : CR → AH → Prop), R (.ret (.bool true)) h → WF PP w0 id_cosignerlaw11_head [] h R) (H : Q (.ret (.bool true)) h) : WF PP w0 id_cosignerlaw11_StepCalc [vi op, vi b, vi c] h Q := by
  refine cosignerlaw11_StepCalc_wp _ _ _ ?_
  unfold cosignerlaw11_StepCalc_F
  refine hhead _ _ ?_
  refine Calc_ok _ _ _ ?_
  unfold calcR
  simp only [pr, cl, gd_T, gd_F, gd_TF, gd_FT, gd_U, br_T, br_F, cond_true, cond_false, WP_eql, WP_neq, WP_lss, WP_leq, WP_gtr, WP_geq, WP_notB, WP_pick, decide_true, decide_false, Bool.not_true, Bool.not_false, ext2.1, ext2.2]
  refine RCalc_ok _ _ _ ?_
  unfold calcR
  simp only [pr, cl, gd_T, gd_F, gd_TF, gd_FT, gd_U, br_T, br_F, cond_true, cond_false, WP_eql, WP_neq, WP_lss, WP_leq, WP_gtr, WP_geq, WP_notB, WP_pick, decide_true, decide_false, Bool.not_true, Bool.not_false, ext2.1, ext2.2]
  refine Calc_ok _ _ _ ?_
  unfold calcR
  simp only [pr, cl, gd_T, gd_F, gd_TF, gd_FT, gd_U, br_T, br_F, cond_true, cond_false, WP_eql, WP_neq, WP_lss, WP_leq, WP_gtr, WP_geq, WP_notB, WP_pick, decide_true, decide_false, Bool.not_true, Bool.not_false, ext2.1, ext2.2]
  refine Calc_ok _ _ _ ?_
  unfold calcR
  simp only [pr, cl, gd_T, gd_F, gd_TF, gd_FT, gd_U, br_T, br_F, cond_true, cond_false, WP_eql, WP_neq, WP_lss, WP_leq, WP_gtr, WP_geq, WP_notB, WP_pick, decide_true, decide_false, Bool.not_true, Bool.not_false, ext2.1, ext2.2, cosignerlaw11_StepCalc_J1]
  by_cases e1 : (calcV 9 b c).2 = 0
  · simp only [e1, pr, cl, gd_T, gd_F, gd_TF, gd_FT, gd_U, br_T, br_F, cond_true, cond_false, WP_eql, WP_neq, WP_lss, WP_leq, WP_gtr, WP_geq, WP_notB, WP_pick, decide_true, decide_false, Bool.not_true, Bool.not_false]
    by_cases e2 : (calcV 10 b c).2 = 0
    · obtain ⟨g0, g1, g2, g3, g4, g5⟩ := calcV_div e1 e2
      have hs := flo_spec (b := b) g0
      have hb := inM_iff.1 g3
      have hc := inM_iff.1 g4
      simp only [e2, pr, cl, gd_T, gd_F, gd_TF, gd_FT, gd_U, br_T, br_F, cond_true, cond_false, WP_eql, WP_neq, WP_lss, WP_leq, WP_gtr, WP_geq, WP_notB, WP_pick, decide_true, decide_false, Bool.not_true, Bool.not_false, cosignerlaw11_StepCalc_J2, g1, g2, WP_mul, WP_add]
      have hr : -1099511627776 ≤ b - c * flo b c ∧ b - c * flo b c ≤ 1099511627776 := by
        rcases Int.lt_or_gt_of_ne g0 with h | h
        · have := hs.2.2 h; omega
        · have := hs.2.1 h; omega
      rw [wrapQ_in (n := c * flo b c) (by omega) (by omega), wrapQ_in (by omega) (by omega)]
      simp only [hs.1, pr, cl, gd_T, gd_F, gd_TF, gd_FT, gd_U, br_T, br_F, cond_true, cond_false, WP_eql, WP_neq, WP_lss, WP_leq, WP_gtr, WP_geq, WP_notB, WP_pick, decide_true, decide_false, Bool.not_true, Bool.not_false]
      rcases Int.lt_or_gt_of_ne g0 with h | h
      · have h2 := hs.2.2 h
        have n1 : ¬ (0 < c) := by omega
        simp only [n1, h, h2.1, h2.2, pr, cl, gd_T, gd_F, gd_TF, gd_FT, gd_U, br_T, br_F, cond_true, cond_false, WP_eql, WP_neq, WP_lss, WP_leq, WP_gtr, WP_geq, WP_notB, WP_pick, decide_true, decide_false, Bool.not_true, Bool.not_false]
        exact H
      · have h2 := hs.2.1 h
        have h3 : 0 < c := h
        simp only [h3, h2.1, h2.2, pr, cl, gd_T, gd_F, gd_TF, gd_FT, gd_U, br_T, br_F, cond_true, cond_false, WP_eql, WP_neq, WP_lss, WP_leq, WP_gtr, WP_geq, WP_notB, WP_pick, decide_true, decide_false, Bool.not_true, Bool.not_false]
        exact H
    · simp only [e2, pr, cl, gd_T, gd_F, gd_TF, gd_FT, gd_U, br_T, br_F, cond_true, cond_false, WP_eql, WP_neq, WP_lss, WP_leq, WP_gtr, WP_geq, WP_notB, WP_pick, decide_true, decide_false, Bool.not_true, Bool.not_false]; exact H
  · simp only [e1, pr, cl, gd_T, gd_F, gd_TF, gd_FT, gd_U, br_T, br_F, cond_true, cond_false, WP_eql, WP_neq, WP_lss, WP_leq, WP_gtr, WP_geq, WP_notB, WP_pick, decide_true, decide_false, Bool.not_true, Bool.not_false]; exact H
end
end
end Go.Ve.T
