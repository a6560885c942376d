/- Part 15: MADE BY A PROGRAM (gen_tab.py, exp.py): the tables of operations, and what formOf and RowOf give. No condition. And what follows it. -/
import Derived.Test.YteeibihhdldjfaaGreatDoorVeN
set_option linter.unusedVariables false
set_option linter.unusedSimpArgs false
namespace Go.Ve.T
open Go.Ve Go.Proofs
noncomputable section
set_option maxRecDepth 20000
theorem AH.rds_wr_same {h : AH} {b o n : Nat} {l : List Value} (hn : l.length = n) (H : h.can b o n) : (h.wr b o l).rds b o l := fun i v hv => by
  have hi : i < l.length := (List.getElem?_eq_some_iff.1 hv).1
  subst hn
  rw [AH.rd_wr H (Nat.le_refl _), if_pos ⟨rfl, by omega, by omega⟩, Nat.add_sub_cancel_left]; exact hv
def FT : List (List Value) := [[(bs []), vi 0, vi 0, vi 0, vi 0, vi 0, vi 0, .bool false, .bool false],
[(bs [105, 110, 116]), vi 1, vi 4, vi 0, vi 1, vi 0, vi 0, .bool false, .bool false],
[(bs [98, 111, 111, 108]), vi 1, vi 5, vi 0, vi 1, vi 0, vi 0, .bool false, .bool false],
[(bs [118, 111, 105, 100]), vi 1, vi 0, vi 0, vi 1, vi 0, vi 0, .bool false, .bool false],
[(bs [109, 111, 118, 101]), vi 1, vi 1, vi 0, vi 1, vi 2, vi 0, .bool false, .bool false],
[(bs [115, 101, 108, 102]), vi 1, vi 0, vi 0, vi 1, vi 0, vi 0, .bool false, .bool false],
[(bs [97, 100, 100]), vi 1, vi 1, vi 1, vi 1, vi 2, vi 3, .bool true, .bool false],
[(bs [115, 117, 98]), vi 1, vi 1, vi 1, vi 1, vi 2, vi 3, .bool true, .bool false],
[(bs [109, 117, 108]), vi 1, vi 1, vi 1, vi 1, vi 2, vi 3, .bool true, .bool false],
[(bs [100, 105, 118]), vi 1, vi 1, vi 1, vi 1, vi 2, vi 3, .bool true, .bool false],
[(bs [109, 111, 100]), vi 1, vi 1, vi 1, vi 1, vi 2, vi 3, .bool true, .bool false],
[(bs [110, 101, 103]), vi 1, vi 1, vi 0, vi 1, vi 2, vi 0, .bool false, .bool false],
[(bs [101, 113]), vi 1, vi 1, vi 1, vi 1, vi 2, vi 3, .bool false, .bool false],
[(bs [108, 101, 115, 115]), vi 1, vi 1, vi 1, vi 1, vi 2, vi 3, .bool false, .bool false],
[(bs [109, 111, 115, 116]), vi 1, vi 1, vi 1, vi 1, vi 2, vi 3, .bool false, .bool false],
[(bs [110, 111, 116]), vi 1, vi 1, vi 0, vi 1, vi 2, vi 0, .bool false, .bool false],
[(bs [104, 97, 115]), vi 1, vi 1, vi 0, vi 1, vi 2, vi 0, .bool false, .bool false],
[(bs [103, 101, 116]), vi 1, vi 2, vi 7, vi 1, vi 2, vi 0, .bool true, .bool false],
[(bs [115, 101, 116]), vi 7, vi 1, vi 0, vi 0, vi 2, vi 0, .bool false, .bool false],
[(bs [97, 114, 103]), vi 6, vi 1, vi 0, vi 0, vi 2, vi 0, .bool false, .bool false],
[(bs [99, 97, 108, 108]), vi 2, vi 2, vi 8, vi 1, vi 2, vi 0, .bool true, .bool false],
[(bs [110, 101, 119]), vi 1, vi 10, vi 5, vi 1, vi 0, vi 0, .bool true, .bool false],
[(bs [109, 97, 107, 101]), vi 1, vi 9, vi 0, vi 0, vi 1, vi 0, .bool true, .bool false],
[(bs [105, 110, 118]), vi 2, vi 0, vi 0, vi 0, vi 1, vi 0, .bool true, .bool false],
[(bs [106, 117, 109, 112]), vi 3, vi 0, vi 0, vi 0, vi 0, vi 0, .bool false, .bool true],
[(bs [102, 97, 108, 115, 101]), vi 1, vi 3, vi 0, vi 0, vi 1, vi 0, .bool false, .bool false],
[(bs [114, 97, 105, 115, 101]), vi 11, vi 0, vi 0, vi 0, vi 0, vi 0, .bool true, .bool true],
[(bs [102, 97, 105, 108]), vi 0, vi 0, vi 0, vi 0, vi 0, vi 0, .bool true, .bool true],
[(bs [114, 101, 116]), vi 2, vi 0, vi 0, vi 0, vi 1, vi 0, .bool false, .bool true],
[(bs [112, 117, 116]), vi 1, vi 0, vi 0, vi 0, vi 1, vi 0, .bool false, .bool false],
[(bs [101, 110, 116, 101, 114]), vi 1, vi 0, vi 0, vi 0, vi 1, vi 0, .bool true, .bool false],
[(bs [108, 101, 97, 118, 101]), vi 0, vi 0, vi 0, vi 0, vi 0, vi 0, .bool false, .bool false],
[(bs [97, 103, 97, 105, 110]), vi 1, vi 3, vi 0, vi 0, vi 1, vi 0, .bool true, .bool false],
[(bs [108, 111, 97, 100]), vi 1, vi 12, vi 0, vi 1, vi 0, vi 0, .bool false, .bool false],
[(bs [115, 116, 111, 114, 101]), vi 12, vi 1, vi 0, vi 0, vi 2, vi 0, .bool false, .bool false]]
def isOp (op : Int) : Bool := decide (1 ≤ op ∧ op ≤ 34)
def frm (op : Int) : List Value := if isOp op then FT.getD op.toNat [] else FT.getD 0 []
theorem op_cases {op : Int} (h : isOp op = true) : op = 1 ∨ op = 2 ∨ op = 3 ∨ op = 4 ∨ op = 5 ∨ op = 6 ∨ op = 7 ∨ op = 8 ∨ op = 9 ∨ op = 10 ∨ op = 11 ∨ op = 12 ∨ op = 13 ∨ op = 14 ∨ op = 15 ∨ op = 16 ∨ op = 17 ∨ op = 18 ∨ op = 19 ∨ op = 20 ∨ op = 21 ∨ op = 22 ∨ op = 23 ∨ op = 24 ∨ op = 25 ∨ op = 26 ∨ op = 27 ∨ op = 28 ∨ op = 29 ∨ op = 30 ∨ op = 31 ∨ op = 32 ∨ op = 33 ∨ op = 34 := by
  unfold isOp at h; rw [decide_eq_true_eq] at h; omega
section
variable {w0 : World} {h : AH} {Q : CR → AH → Prop}
theorem forms_ok (H : ∀ h', Keep h h' → (h.Ok → h'.Ok) → Q (.ret (.agg ⟨FT.flatten⟩)) h') : WF PP w0 id_core_forms [] h Q := by
  refine core_forms_wp ?_
  unfold core_forms_F
  refine (WP_alloc (by kernel_rfl)).2 ?_
  refine (WX_buildAll (by kernel_rfl)).2 ?_
  refine (WX_build (l := [vi 0, vi 0]) (by kernel_rfl)).2 ?_
  refine (WX_buildAll (by kernel_rfl)).2 ?_
  refine (WX_buildAll (by kernel_rfl)).2 ?_
  refine (WX_build (l := [vi 0, vi 0]) (by kernel_rfl)).2 ?_
  refine (WX_buildAll (by kernel_rfl)).2 ?_
  refine (WX_buildAll (by kernel_rfl)).2 ?_
  refine (WX_build (l := [vi 0, vi 0]) (by kernel_rfl)).2 ?_
  refine (WX_buildAll (by kernel_rfl)).2 ?_
  refine (WX_buildAll (by kernel_rfl)).2 ?_
  refine (WX_build (l := [vi 2, vi 0]) (by kernel_rfl)).2 ?_
  refine (WX_buildAll (by kernel_rfl)).2 ?_
  refine (WX_buildAll (by kernel_rfl)).2 ?_
  refine (WX_build (l := [vi 0, vi 0]) (by kernel_rfl)).2 ?_
  refine (WX_buildAll (by kernel_rfl)).2 ?_
  refine (WX_buildAll (by kernel_rfl)).2 ?_
  refine (WX_buildAll (by kernel_rfl)).2 ?_
  refine (WX_buildAll (by kernel_rfl)).2 ?_
  refine (WX_buildAll (by kernel_rfl)).2 ?_
  refine (WX_buildAll (by kernel_rfl)).2 ?_
  refine (WX_buildAll (by kernel_rfl)).2 ?_
  refine (WX_buildAll (by kernel_rfl)).2 ?_
  refine (WX_buildAll (by kernel_rfl)).2 ?_
  refine (WX_buildAll (by kernel_rfl)).2 ?_
  refine (WX_buildAll (by kernel_rfl)).2 ?_
  refine (WX_buildAll (by kernel_rfl)).2 ?_
  refine (WX_buildAll (by kernel_rfl)).2 ?_
  refine (WX_buildAll (by kernel_rfl)).2 ?_
  refine (WX_buildAll (by kernel_rfl)).2 ?_
  refine (WX_buildAll (by kernel_rfl)).2 ?_
  refine (WX_buildAll (by kernel_rfl)).2 ?_
  refine (WX_build (l := [vi 2, vi 0]) (by kernel_rfl)).2 ?_
  refine (WX_buildAll (by kernel_rfl)).2 ?_
  refine (WX_buildAll (by kernel_rfl)).2 ?_
  refine (WX_buildAll (by kernel_rfl)).2 ?_
  refine (WX_buildAll (by kernel_rfl)).2 ?_
  refine (WX_buildAll (by kernel_rfl)).2 ?_
  refine (WX_buildAll (by kernel_rfl)).2 ?_
  refine (WX_buildAll (by kernel_rfl)).2 ?_
  refine (WX_buildAll (by kernel_rfl)).2 ?_
  refine (WX_buildAll (by kernel_rfl)).2 ?_
  refine (WX_buildAll (by kernel_rfl)).2 ?_
  refine (WX_buildAll (by kernel_rfl)).2 ?_
  refine (WX_build (l := [vi 2, vi 0]) (by kernel_rfl)).2 ?_
  refine (WX_buildAll (by kernel_rfl)).2 ?_
  refine (WX_buildAll (by kernel_rfl)).2 ?_
  refine (WX_build (l := [vi 2, vi 0]) (by kernel_rfl)).2 ?_
  refine (WX_buildAll (by kernel_rfl)).2 ?_
  refine (WX_buildAll (by kernel_rfl)).2 ?_
  refine (WX_build (l := [vi 2, vi 0]) (by kernel_rfl)).2 ?_
  refine (WX_buildAll (by kernel_rfl)).2 ?_
  refine (WX_buildAll (by kernel_rfl)).2 ?_
  refine (WX_build (l := [vi 2, vi 0]) (by kernel_rfl)).2 ?_
  refine (WX_buildAll (by kernel_rfl)).2 ?_
  refine (WX_buildAll (by kernel_rfl)).2 ?_
  refine (WX_build (l := [vi 2, vi 0]) (by kernel_rfl)).2 ?_
  refine (WX_buildAll (by kernel_rfl)).2 ?_
  refine (WX_buildAll (by kernel_rfl)).2 ?_
  refine (WX_build (l := [vi 2, vi 0]) (by kernel_rfl)).2 ?_
  refine (WX_buildAll (by kernel_rfl)).2 ?_
  refine (WX_buildAll (by kernel_rfl)).2 ?_
  refine (WX_build (l := [vi 0, vi 0]) (by kernel_rfl)).2 ?_
  refine (WX_buildAll (by kernel_rfl)).2 ?_
  refine (WX_buildAll (by kernel_rfl)).2 ?_
  refine (WX_build (l := [vi 1, vi 0]) (by kernel_rfl)).2 ?_
  refine (WX_buildAll (by kernel_rfl)).2 ?_
  refine (WX_buildAll (by kernel_rfl)).2 ?_
  refine (WX_build (l := [vi 1, vi 0]) (by kernel_rfl)).2 ?_
  refine (WX_buildAll (by kernel_rfl)).2 ?_
  refine (WX_buildAll (by kernel_rfl)).2 ?_
  refine (WX_build (l := [vi 0, vi 0]) (by kernel_rfl)).2 ?_
  refine (WX_buildAll (by kernel_rfl)).2 ?_
  refine (WX_buildAll (by kernel_rfl)).2 ?_
  refine (WX_build (l := [vi 1, vi 0]) (by kernel_rfl)).2 ?_
  refine (WX_buildAll (by kernel_rfl)).2 ?_
  refine (WX_buildAll (by kernel_rfl)).2 ?_
  refine (WX_build (l := [vi 0, vi 0]) (by kernel_rfl)).2 ?_
  refine (WX_buildAll (by kernel_rfl)).2 ?_
  refine (WX_buildAll (by kernel_rfl)).2 ?_
  refine (WX_build (l := [vi 0, vi 0]) (by kernel_rfl)).2 ?_
  refine (WX_buildAll (by kernel_rfl)).2 ?_
  refine (WX_buildAll (by kernel_rfl)).2 ?_
  refine (WX_build (l := [vi 1, vi 0]) (by kernel_rfl)).2 ?_
  refine (WX_buildAll (by kernel_rfl)).2 ?_
  refine (WX_buildAll (by kernel_rfl)).2 ?_
  refine (WX_build (l := [vi 1, vi 0]) (by kernel_rfl)).2 ?_
  refine (WX_buildAll (by kernel_rfl)).2 ?_
  refine (WX_buildAll (by kernel_rfl)).2 ?_
  refine (WX_build (l := [vi 1, vi 0]) (by kernel_rfl)).2 ?_
  refine (WX_buildAll (by kernel_rfl)).2 ?_
  refine (WX_buildAll (by kernel_rfl)).2 ?_
  refine (WX_build (l := [vi 0, vi 0]) (by kernel_rfl)).2 ?_
  refine (WX_buildAll (by kernel_rfl)).2 ?_
  refine (WX_buildAll (by kernel_rfl)).2 ?_
  refine (WX_build (l := [vi 1, vi 0]) (by kernel_rfl)).2 ?_
  refine (WX_buildAll (by kernel_rfl)).2 ?_
  refine (WX_buildAll (by kernel_rfl)).2 ?_
  refine (WX_build (l := [vi 0, vi 0]) (by kernel_rfl)).2 ?_
  refine (WX_buildAll (by kernel_rfl)).2 ?_
  refine (WX_buildAll (by kernel_rfl)).2 ?_
  refine (WX_build (l := [vi 2, vi 0]) (by kernel_rfl)).2 ?_
  refine (WX_buildAll (by kernel_rfl)).2 ?_
  refine (WX_build (l := FT.flatten) (by kernel_rfl)).2 ?_
  have hc : ∀ z : List Value, z.length = 315 → (h.new 182 z).can h.nx 0 315 := fun z hz => (AH.can_new_iff h 182 z h.nx 0 315).2 (by rw [if_pos rfl, hz]; exact Nat.le_refl _)
  refine (WP_store (hc _ (by kernel_rfl)) (by kernel_rfl) (by kernel_rfl)).2 ?_
  refine (WP_loadN (l := FT.flatten) (AH.rds_wr_same (by kernel_rfl) (hc _ (by kernel_rfl))) (by kernel_rfl) (by decide)).2 ?_
  exact H _ (((Keep.refl h).new' _ _).wr (Nat.le_refl _) _ _) (fun ok => AH.ok_wr (AH.ok_new ok _ _) _ _ _)
theorem flat_slice {sz : Nat} : ∀ {l : List (List Value)} {i : Nat} {x : List Value}, (∀ x ∈ l, x.length = sz) → l[i]? = some x → (l.flatten.drop (i * sz)).take sz = x
  | [], i, x, _, e => by simp at e
  | y :: l, 0, x, hs, e => by
    simp at e; subst e
    have := hs y List.mem_cons_self
    rw [Nat.zero_mul, List.drop_zero, List.flatten_cons, List.take_append_of_le_length (by omega), ← this, List.take_length]
  | y :: l, i + 1, x, hs, e => by
    have h1 := hs y List.mem_cons_self
    rw [List.flatten_cons, show (i + 1) * sz = y.length + i * sz by rw [h1, Nat.add_mul]; omega, List.drop_append, List.drop_of_length_le (by omega), List.nil_append, Nat.add_sub_cancel_left]
    exact flat_slice (fun x hx => hs x (List.mem_cons_of_mem _ hx)) (by simpa using e)
theorem keep_can {h h' : AH} (K : Keep h h') {b o n : Nat} (hb : b < h.nx) : h'.can b o n ↔ h.can b o n := by unfold AH.can; rw [K.get b hb]
theorem FT_at {i : Nat} (hi : i < 35) : ∃ x, FT[i]? = some x ∧ FT.getD i [] = x ∧ x.length = 9 ∧ allOne x = true := by
  have hl : FT.length = 35 := by kernel_rfl
  have h1 : FT.all (fun x => decide (x.length = 9) && allOne x) = true := by kernel_rfl
  have hx : FT[i]? = some FT[i] := List.getElem?_eq_getElem (by omega)
  have h2 := List.all_eq_true.1 h1 FT[i] (List.getElem_mem (by omega))
  rw [Bool.and_eq_true, decide_eq_true_eq] at h2
  exact ⟨_, hx, by rw [List.getD, hx]; rfl, h2.1, h2.2⟩
theorem formOf_ok (op : Int) (H : ∀ h', Keep h h' → (h.Ok → h'.Ok) → Q (.ret (.tuple ⟨[.agg ⟨frm op⟩, .bool (isOp op)]⟩)) h') : WF PP w0 id_core_formOf [vi op] h Q := by
  refine core_formOf_wp _ ?_
  unfold core_formOf_F
  refine (WP_alloc rfl).2 ?_
  refine WP_lss.2 ?_
  by_cases hi : isOp op = true
  · have hi' : 1 ≤ op ∧ op ≤ 34 := by unfold isOp at hi; rwa [decide_eq_true_eq] at hi
    have e1 : decide (op < 1) = false := decide_eq_false (by omega)
    have e2 : decide (34 < op) = false := decide_eq_false (by omega)
    simp only [e1, e2, pr, ld, pn, gd_T, gd_F, gd_TF, gd_FT, gd_U, br_T, br_F, gk_T, gk_F, gk_TF, gk_FT, gk_U, ck, WP_move, WP_pick, cond_true, cond_false, WP_fieldAddr, mkP, WX_load1, WX_loadN (show 0 < 2 by decide), WX_loadN (show 0 < 3 by decide), WX_loadN (show 0 < 4 by decide), WX_loadN (show 0 < 7 by decide), WX_loadN (show 0 < 9 by decide), WX_store, WX_extract, WX_field1, AH.rdL_succ, AH.rdL_zero, AH.rd_new, AH.nx_new, AH.can_new_iff, AH.can_wr_iff, AH.wr_nx, if_true, if_false, Nat.zero_add, Nat.add_zero, Nat.reduceAdd, cellsOf_agg, cellsOf_int, cellsOf_bool, cellsOf_str, cellsOf_ptr, cellsOf_sl, cellsOf_map, cellsOf_fun, List.getElem?_cons_zero, List.getElem?_cons_succ, Option.some.injEq, exists_eq_left', Option.bind_some, Option.map_some, WP_eql, WP_neq, WP_lss, WP_leq, WP_gtr, WP_geq, WP_notB, WP_eqB, WP_neqB, decide_true, decide_false, Bool.not_true, Bool.not_false, Nat.left_eq_add, Nat.add_eq_zero_iff, Nat.add_eq_left, Nat.add_eq_right, Nat.reduceEqDiff, Nat.one_ne_zero, and_false, false_and, true_and, and_true, List.length_cons, List.length_nil, Nat.reduceLeDiff, Nat.le_refl, Nat.not_lt_zero, Nat.lt_irrefl, reduceCtorEq, allOne_nil, allOne_cons, oneCell_int, oneCell_bool, oneCell_str, oneCell_ptr, oneCell_sl, oneCell_map, oneCell_fun, Bool.and_self, Bool.and_true, Bool.true_and, sizL, WX_buildAll, WY_build, fillL, splL, List.take_zero, List.take_succ_cons, List.drop_zero, List.drop_succ_cons, List.drop_nil, List.take_nil, and_self, ↓reduceIte, List.flatMap_cons, List.flatMap_nil, List.cons_append, List.nil_append, List.append_nil, WP_alloc, WP_box, Nat.sub_zero, Nat.reduceSub, Nat.reduceLT, AH.rd_wr', Nat.zero_le]
    unfold core_formOf_J1
    refine forms_ok fun h' K ok => ?_
    obtain ⟨k, hk⟩ : ∃ k : Nat, op = k := ⟨op.toNat, by omega⟩
    subst hk
    obtain ⟨x, x1, x2, x3, x4⟩ := FT_at (i := k) (by omega)
    have hfr : frm (k : Int) = x := by unfold frm; rw [hi, if_pos rfl]; exact x2
    refine (WP_indexN (by omega) (by have : FT.flatten.length = 315 := by kernel_rfl
                                     omega)).2 ?_
    rw [flat_slice (fun y hy => ?_) x1]
    rotate_left
    · have h1 : FT.all (fun x => decide (x.length = 9)) = true := by kernel_rfl
      exact of_decide_eq_true (List.all_eq_true.1 h1 y hy)
    have hc : h'.can h.nx 0 9 := (keep_can K (Nat.lt_succ_self _)).2 (by rw [AH.can_new_iff, if_pos rfl]; exact Nat.le_refl 9)
    refine (WP_store hc (show (cellsOf (.agg ⟨x⟩)).length = 9 from x3) x4).2 ?_
    refine (WP_loadN (l := x) (AH.rds_wr_same x3 hc) x3 (by decide)).2 ?_
    simp only [hfr, hi] at H
    exact H _ (((Keep.new h _ _).trans K).wr (Nat.le_refl _) _ _) (fun o => AH.ok_wr (ok (AH.ok_new o _ _)) _ _ _)
  · have hi' : ¬ (1 ≤ op ∧ op ≤ 34) := by unfold isOp at hi; rwa [decide_eq_true_eq] at hi
    have hf : frm op = [(bs []), vi 0, vi 0, vi 0, vi 0, vi 0, vi 0, .bool false, .bool false] := by unfold frm; rw [if_neg hi]; rfl
    have hb : isOp op = false := by simpa using hi
    by_cases e1 : op < 1
    · simp only [decide_eq_true e1, pr, ld, pn, gd_T, gd_F, gd_TF, gd_FT, gd_U, br_T, br_F, gk_T, gk_F, gk_TF, gk_FT, gk_U, ck, WP_move, WP_pick, cond_true, cond_false, WP_fieldAddr, mkP, WX_load1, WX_loadN (show 0 < 2 by decide), WX_loadN (show 0 < 3 by decide), WX_loadN (show 0 < 4 by decide), WX_loadN (show 0 < 7 by decide), WX_loadN (show 0 < 9 by decide), WX_store, WX_extract, WX_field1, AH.rdL_succ, AH.rdL_zero, AH.rd_new, AH.nx_new, AH.can_new_iff, AH.can_wr_iff, AH.wr_nx, if_true, if_false, Nat.zero_add, Nat.add_zero, Nat.reduceAdd, cellsOf_agg, cellsOf_int, cellsOf_bool, cellsOf_str, cellsOf_ptr, cellsOf_sl, cellsOf_map, cellsOf_fun, List.getElem?_cons_zero, List.getElem?_cons_succ, Option.some.injEq, exists_eq_left', Option.bind_some, Option.map_some, WP_eql, WP_neq, WP_lss, WP_leq, WP_gtr, WP_geq, WP_notB, WP_eqB, WP_neqB, decide_true, decide_false, Bool.not_true, Bool.not_false, Nat.left_eq_add, Nat.add_eq_zero_iff, Nat.add_eq_left, Nat.add_eq_right, Nat.reduceEqDiff, Nat.one_ne_zero, and_false, false_and, true_and, and_true, List.length_cons, List.length_nil, Nat.reduceLeDiff, Nat.le_refl, Nat.not_lt_zero, Nat.lt_irrefl, reduceCtorEq, allOne_nil, allOne_cons, oneCell_int, oneCell_bool, oneCell_str, oneCell_ptr, oneCell_sl, oneCell_map, oneCell_fun, Bool.and_self, Bool.and_true, Bool.true_and, sizL, WX_buildAll, WY_build, fillL, splL, List.take_zero, List.take_succ_cons, List.drop_zero, List.drop_succ_cons, List.drop_nil, List.take_nil, and_self, ↓reduceIte, List.flatMap_cons, List.flatMap_nil, List.cons_append, List.nil_append, List.append_nil, WP_alloc, WP_box, Nat.sub_zero, Nat.reduceSub, Nat.reduceLT, AH.rd_wr', Nat.zero_le, WX_build (show fillL [(bs []), (vi 0), (vi 0), (vi 0), (vi 0), (vi 0), (vi 0), (.bool false), (.bool false)] [] [] = some [(bs []), (vi 0), (vi 0), (vi 0), (vi 0), (vi 0), (vi 0), (.bool false), (.bool false)] from rfl)]
      simp only [hf, hb] at H
      exact H _ ((Keep.new h _ _).wr (Nat.le_refl _) _ _) (fun o => AH.ok_wr (AH.ok_new o _ _) _ _ _)
    · have e2 : 34 < op := by omega
      simp only [decide_eq_false e1, decide_eq_true e2, pr, ld, pn, gd_T, gd_F, gd_TF, gd_FT, gd_U, br_T, br_F, gk_T, gk_F, gk_TF, gk_FT, gk_U, ck, WP_move, WP_pick, cond_true, cond_false, WP_fieldAddr, mkP, WX_load1, WX_loadN (show 0 < 2 by decide), WX_loadN (show 0 < 3 by decide), WX_loadN (show 0 < 4 by decide), WX_loadN (show 0 < 7 by decide), WX_loadN (show 0 < 9 by decide), WX_store, WX_extract, WX_field1, AH.rdL_succ, AH.rdL_zero, AH.rd_new, AH.nx_new, AH.can_new_iff, AH.can_wr_iff, AH.wr_nx, if_true, if_false, Nat.zero_add, Nat.add_zero, Nat.reduceAdd, cellsOf_agg, cellsOf_int, cellsOf_bool, cellsOf_str, cellsOf_ptr, cellsOf_sl, cellsOf_map, cellsOf_fun, List.getElem?_cons_zero, List.getElem?_cons_succ, Option.some.injEq, exists_eq_left', Option.bind_some, Option.map_some, WP_eql, WP_neq, WP_lss, WP_leq, WP_gtr, WP_geq, WP_notB, WP_eqB, WP_neqB, decide_true, decide_false, Bool.not_true, Bool.not_false, Nat.left_eq_add, Nat.add_eq_zero_iff, Nat.add_eq_left, Nat.add_eq_right, Nat.reduceEqDiff, Nat.one_ne_zero, and_false, false_and, true_and, and_true, List.length_cons, List.length_nil, Nat.reduceLeDiff, Nat.le_refl, Nat.not_lt_zero, Nat.lt_irrefl, reduceCtorEq, allOne_nil, allOne_cons, oneCell_int, oneCell_bool, oneCell_str, oneCell_ptr, oneCell_sl, oneCell_map, oneCell_fun, Bool.and_self, Bool.and_true, Bool.true_and, sizL, WX_buildAll, WY_build, fillL, splL, List.take_zero, List.take_succ_cons, List.drop_zero, List.drop_succ_cons, List.drop_nil, List.take_nil, and_self, ↓reduceIte, List.flatMap_cons, List.flatMap_nil, List.cons_append, List.nil_append, List.append_nil, WP_alloc, WP_box, Nat.sub_zero, Nat.reduceSub, Nat.reduceLT, AH.rd_wr', Nat.zero_le, WX_build (show fillL [(bs []), (vi 0), (vi 0), (vi 0), (vi 0), (vi 0), (vi 0), (.bool false), (.bool false)] [] [] = some [(bs []), (vi 0), (vi 0), (vi 0), (vi 0), (vi 0), (vi 0), (.bool false), (.bool false)] from rfl)]
      simp only [hf, hb] at H
      exact H _ ((Keep.new h _ _).wr (Nat.le_refl _) _ _) (fun o => AH.ok_wr (AH.ok_new o _ _) _ _ _)
end
end
end Go.Ve.T
namespace Go.Ve.T
open Go.Ve Go.Proofs
noncomputable section
set_option maxRecDepth 20000
def FORMS : List G_core_form := [
⟨bytesOf [], ⟨0, 0, 0⟩, 0, ⟨0, 0⟩, false, false⟩,
⟨bytesOf [105, 110, 116], ⟨1, 4, 0⟩, 1, ⟨0, 0⟩, false, false⟩,
⟨bytesOf [98, 111, 111, 108], ⟨1, 5, 0⟩, 1, ⟨0, 0⟩, false, false⟩,
⟨bytesOf [118, 111, 105, 100], ⟨1, 0, 0⟩, 1, ⟨0, 0⟩, false, false⟩,
⟨bytesOf [109, 111, 118, 101], ⟨1, 1, 0⟩, 1, ⟨2, 0⟩, false, false⟩,
⟨bytesOf [115, 101, 108, 102], ⟨1, 0, 0⟩, 1, ⟨0, 0⟩, false, false⟩,
⟨bytesOf [97, 100, 100], ⟨1, 1, 1⟩, 1, ⟨2, 3⟩, true, false⟩,
⟨bytesOf [115, 117, 98], ⟨1, 1, 1⟩, 1, ⟨2, 3⟩, true, false⟩,
⟨bytesOf [109, 117, 108], ⟨1, 1, 1⟩, 1, ⟨2, 3⟩, true, false⟩,
⟨bytesOf [100, 105, 118], ⟨1, 1, 1⟩, 1, ⟨2, 3⟩, true, false⟩,
⟨bytesOf [109, 111, 100], ⟨1, 1, 1⟩, 1, ⟨2, 3⟩, true, false⟩,
⟨bytesOf [110, 101, 103], ⟨1, 1, 0⟩, 1, ⟨2, 0⟩, false, false⟩,
⟨bytesOf [101, 113], ⟨1, 1, 1⟩, 1, ⟨2, 3⟩, false, false⟩,
⟨bytesOf [108, 101, 115, 115], ⟨1, 1, 1⟩, 1, ⟨2, 3⟩, false, false⟩,
⟨bytesOf [109, 111, 115, 116], ⟨1, 1, 1⟩, 1, ⟨2, 3⟩, false, false⟩,
⟨bytesOf [110, 111, 116], ⟨1, 1, 0⟩, 1, ⟨2, 0⟩, false, false⟩,
⟨bytesOf [104, 97, 115], ⟨1, 1, 0⟩, 1, ⟨2, 0⟩, false, false⟩,
⟨bytesOf [103, 101, 116], ⟨1, 2, 7⟩, 1, ⟨2, 0⟩, true, false⟩,
⟨bytesOf [115, 101, 116], ⟨7, 1, 0⟩, 0, ⟨2, 0⟩, false, false⟩,
⟨bytesOf [97, 114, 103], ⟨6, 1, 0⟩, 0, ⟨2, 0⟩, false, false⟩,
⟨bytesOf [99, 97, 108, 108], ⟨2, 2, 8⟩, 1, ⟨2, 0⟩, true, false⟩,
⟨bytesOf [110, 101, 119], ⟨1, 10, 5⟩, 1, ⟨0, 0⟩, true, false⟩,
⟨bytesOf [109, 97, 107, 101], ⟨1, 9, 0⟩, 0, ⟨1, 0⟩, true, false⟩,
⟨bytesOf [105, 110, 118], ⟨2, 0, 0⟩, 0, ⟨1, 0⟩, true, false⟩,
⟨bytesOf [106, 117, 109, 112], ⟨3, 0, 0⟩, 0, ⟨0, 0⟩, false, true⟩,
⟨bytesOf [102, 97, 108, 115, 101], ⟨1, 3, 0⟩, 0, ⟨1, 0⟩, false, false⟩,
⟨bytesOf [114, 97, 105, 115, 101], ⟨11, 0, 0⟩, 0, ⟨0, 0⟩, true, true⟩,
⟨bytesOf [102, 97, 105, 108], ⟨0, 0, 0⟩, 0, ⟨0, 0⟩, true, true⟩,
⟨bytesOf [114, 101, 116], ⟨2, 0, 0⟩, 0, ⟨1, 0⟩, false, true⟩,
⟨bytesOf [112, 117, 116], ⟨1, 0, 0⟩, 0, ⟨1, 0⟩, false, false⟩,
⟨bytesOf [101, 110, 116, 101, 114], ⟨1, 0, 0⟩, 0, ⟨1, 0⟩, true, false⟩,
⟨bytesOf [108, 101, 97, 118, 101], ⟨0, 0, 0⟩, 0, ⟨0, 0⟩, false, false⟩,
⟨bytesOf [97, 103, 97, 105, 110], ⟨1, 3, 0⟩, 0, ⟨1, 0⟩, true, false⟩,
⟨bytesOf [108, 111, 97, 100], ⟨1, 12, 0⟩, 1, ⟨0, 0⟩, false, false⟩,
⟨bytesOf [115, 116, 111, 114, 101], ⟨12, 1, 0⟩, 0, ⟨2, 0⟩, false, false⟩]
def G_core_form.cells (x : G_core_form) : List Value := [.string x.fname, vi x.fhas.e0, vi x.fhas.e1, vi x.fhas.e2, vi x.fwrites, vi x.freads.e0, vi x.freads.e1, .bool x.fraises, .bool x.fendsNow]
def FORM0 : G_core_form := ⟨bytesOf [], ⟨0, 0, 0⟩, 0, ⟨0, 0⟩, false, false⟩
def formV (op : Int) : G_core_form := bif isOp op then FORMS.getD op.toNat FORM0 else FORM0
theorem formV_cells (op : Int) : (formV op).cells = frm op := by
  unfold formV frm
  cases hi : isOp op with
  | false => rfl
  | true => rcases op_cases hi with rfl | rfl | rfl | rfl | rfl | rfl | rfl | rfl | rfl | rfl | rfl | rfl | rfl | rfl | rfl | rfl | rfl | rfl | rfl | rfl | rfl | rfl | rfl | rfl | rfl | rfl | rfl | rfl | rfl | rfl | rfl | rfl | rfl | rfl <;> rfl
def core_formOf_M (x0 : Int) : Option (G_core_form × Bool) := some (formV x0, isOp x0)
theorem core_formOf_lf {w0 : World} {g h : AH} {Q : CR → AH → Prop} {r : G_core_form × Bool} (x0 : Int) (sg : Sub g h) (ok : h.Ok) (M : core_formOf_M x0 = some r)
    (H : ∀ (g' h' : AH), Sep ⟨g, h, []⟩ g' h' [] → Q (.ret (.tuple ⟨[(.agg ⟨[(.string r.1.fname), (vi r.1.fhas.e0), (vi r.1.fhas.e1), (vi r.1.fhas.e2), (vi r.1.fwrites), (vi r.1.freads.e0), (vi r.1.freads.e1), (.bool r.1.fraises), (.bool r.1.fendsNow)]⟩), (.bool r.2)]⟩)) h') : WF PP w0 id_core_formOf [vi x0] h Q := by
  cases M
  refine formOf_ok x0 fun h' K ok' => ?_
  have := H g h' ((Sep.start sg ok).keep K (ok' ok))
  rw [← formV_cells]; exact this
end
end Go.Ve.T
namespace Go.Ve.T
open Go.Ve Go.Proofs
noncomputable section
set_option maxRecDepth 10000
def Gfn_func_int_bool (w0 : World) (g : AH) (fv : Value) (f : Int → Option Bool) : Prop := oneCell fv = true ∧ ∀ (a0 : Int) (r : Bool) (E K : Value → W) (g2 h2 : AH), Sub g g2 → Sub g2 h2 → h2.Ok → f a0 = some r → (∀ (g' h' : AH), Sep ⟨g2, h2, []⟩ g' h' [] → K (.bool r) h') → dy PP w0 [fv, (vi a0)] E K h2
theorem Gfn_func_int_bool.mono {w0 : World} {g g' : AH} {fv : Value} {f : Int → Option Bool} (H : Gfn_func_int_bool w0 g fv f) (S : Sub g g') : Gfn_func_int_bool w0 g' fv f := ⟨H.1, fun a0 r E K g2 h2 s1 => H.2 a0 r E K g2 h2 (Sub.trans S s1)⟩
def Gfn_func_api_Guard_bool (w0 : World) (g : AH) (fv : Value) (f : G_api_Guard → Option Bool) : Prop := oneCell fv = true ∧ ∀ (a0 : G_api_Guard) (r : Bool) (E K : Value → W) (g2 h2 : AH), Sub g g2 → Sub g2 h2 → h2.Ok → f a0 = some r → (∀ (g' h' : AH), Sep ⟨g2, h2, []⟩ g' h' [] → K (.bool r) h') → dy PP w0 [fv, (.agg ⟨[(vi a0.fFrom), (vi a0.fTo), (vi a0.fAt)]⟩)] E K h2
theorem Gfn_func_api_Guard_bool.mono {w0 : World} {g g' : AH} {fv : Value} {f : G_api_Guard → Option Bool} (H : Gfn_func_api_Guard_bool w0 g fv f) (S : Sub g g') : Gfn_func_api_Guard_bool w0 g' fv f := ⟨H.1, fun a0 r E K g2 h2 s1 => H.2 a0 r E K g2 h2 (Sub.trans S s1)⟩
def core_within_M (x0 : Int) (x1 : Int) (x2 : Int) : Option Bool :=
 bif (decide (x1 ≤ x0)) then (
 some (decide (x0 ≤ x2))) else (
 some false)
abbrev core_within_H (c : Cx) (R : Value → W) (r : Bool) : Prop := ∀ (g' h' : AH), Sep c g' h' [] → R (.bool r) h'
theorem core_within_lf {w0 : World} {g h : AH} {Q : CR → AH → Prop} {r : Bool} {x0 x1 x2 : Int} (M : core_within_M x0 x1 x2 = some r) (sg : Sub g h) (ok : h.Ok)  (H : core_within_H ⟨g, h, []⟩ (fun v => Q (.ret v)) r) : WF PP w0 id_core_within [(vi x0), (vi x1), (vi x2)] h Q := by
  refine g_core_within_wp _ _ _ ?_
  have S := Sep.start sg ok
  unfold g_core_within_F
  unfold core_within_M at M
  refine WP_leq.2 ?_
  cases hc : (decide (x1 ≤ x0))
  · have M := cond_F hc M
    refine gd_mis (by decide) ?_
    refine gd_mis (by decide) ?_
    refine gd_mis (by decide) ?_
    refine WP_pick.2 ?_
    cases M
    exact H _ _  S.drops
  · have M := cond_T hc M
    refine gd_hit rfl ?_
    refine gd_hit rfl ?_
    refine gd_hit rfl ?_
    refine WP_leq.2 ?_
    refine WP_pick.2 ?_
    cases M
    exact H _ _  S.drops
def core_parts_M (x0 : G_api_Ins) : Option GA3_Int :=
 some (GA3_Int.mk x0.fA x0.fB x0.fC)
abbrev core_parts_H (c : Cx) (R : Value → W) (r : GA3_Int) : Prop := ∀ (g' h' : AH), Sep c g' h' [] → R (.agg ⟨[(vi r.e0), (vi r.e1), (vi r.e2)]⟩) h'
theorem core_parts_lf {w0 : World} {g h : AH} {Q : CR → AH → Prop} {r : GA3_Int} {x0 : G_api_Ins} (M : core_parts_M x0 = some r) (sg : Sub g h) (ok : h.Ok)  (H : core_parts_H ⟨g, h, []⟩ (fun v => Q (.ret v)) r) : WF PP w0 id_core_parts [(.agg ⟨[(vi x0.fOp), (vi x0.fA), (vi x0.fB), (vi x0.fC)]⟩)] h Q := by
  refine g_core_parts_wp _ ?_
  have S := Sep.start sg ok
  unfold g_core_parts_F
  unfold core_parts_M at M
  refine S.box [(vi x0.fOp), (vi x0.fA), (vi x0.fB), (vi x0.fC)] rfl (one_cons rfl (one_cons rfl (one_cons rfl (one_cons rfl rfl)))) (fun b_1 h S => ?_)
  refine S.alloc (l := [(vi 0), (vi 0), (vi 0)]) (one_cons rfl (one_cons rfl (one_cons rfl rfl))) (fun b_2 h S => ?_)
  refine WP_fieldAddr.2 ?_
  refine S.bld1 1 rfl rfl ?_
  refine WP_fieldAddr.2 ?_
  refine S.bld1 1 rfl rfl ?_
  refine WP_fieldAddr.2 ?_
  refine S.bld1 1 rfl rfl ?_
  refine WPb [(vi x0.fA), (vi x0.fB), (vi x0.fC)] (by simp only [sizL, cellsOf_agg, cellsOf_int, cellsOf_bool, cellsOf_str,  List.length_cons, List.length_nil, Nat.reduceAdd, Nat.zero_add, decide_true, Bool.and_self]) (by simp only [List.flatMap_cons, List.flatMap_nil, cellsOf_agg, cellsOf_int, cellsOf_bool, cellsOf_str,  List.cons_append, List.nil_append, List.append_nil]) ?_
  refine S.bst [(vi x0.fA), (vi x0.fB), (vi x0.fC)] [(vi x0.fA), (vi x0.fB), (vi x0.fC)] rfl rfl (one_cons rfl (one_cons rfl (one_cons rfl rfl))) (Nat.le_of_ble_eq_true rfl) rfl (fun h S => ?_)
  refine S.bldN [(vi x0.fA), (vi x0.fB), (vi x0.fC)] 0 rfl rfl rfl (by decide) ?_
  cases M
  exact H _ _  S.drops
def g_core_places_J4_M (N : Nat) (y14 : Int) (y16 : List Int) (k12_0 : G_api_Ins) (k12M : (List Int) → Int → Option ((List Int))) : Option ((List Int)) :=
 k12M y16 (wrapQ .i64 (y14 + 1))
def g_core_places_J3_M (N : Nat) (v11 : GA3_Int) (y14 : Int) (v1 : G_api_Ins) (y13 : List Int) (k12M : (List Int) → Int → Option ((List Int))) : Option ((List Int)) :=
(ix [v11.e0, v11.e1, v11.e2] y14).bind fun c_5 =>
 bif (decide (c_5 = 3)) then (
(core_parts_M v1).bind fun c_7 =>
(ix [c_7.e0, c_7.e1, c_7.e2] y14).bind fun c_9 =>
 gu (decide (y13.length + [c_9].length ≤ 1048576)) (
 g_core_places_J4_M N y14 (y13 ++ [c_9]) v1 k12M)) else (
 g_core_places_J4_M N y14 y13 v1 k12M)
def g_core_places_J1_M (N : Nat) (y9 : List Int)  : Option ((List Int)) :=
 some y9
def g_core_places_L2_M (N : Nat) (v11 : GA3_Int) (v1 : G_api_Ins) (y13 : List Int) (y14 : Int) (k12M : (List Int) → Int → Option ((List Int))) : Option ((List Int)) :=
 bif (decide (y14 < 3)) then (
 g_core_places_J3_M N v11 y14 v1 y13 k12M) else (
 g_core_places_J1_M N y13)
def g_core_places_L2_I (N : Nat) (v11 : GA3_Int) (v1 : G_api_Ins)  : Nat → (List Int) → Int → Option ((List Int))
  | 0, _, _ => none
  | n + 1, y13, y14 => g_core_places_L2_M N v11 v1 y13 y14  (fun qy0 qy1 => g_core_places_L2_I N v11 v1 n qy0 qy1)
def core_places_M (N : Nat) (x0 : G_api_Ins) : Option ((List Int)) :=
(core_formOf_M x0.fOp).bind fun c_2 =>
 g_core_places_L2_I N c_2.1.fhas x0 N ([] : List Int) 0
abbrev core_places_H (c : Cx) (R : Value → W) (r : (List Int)) : Prop := ∀ (g' h' : AH) (w1 : Value), Sep c g' h' [] → FzS (rI .i64) 1 g' w1 r → R w1 h'
theorem g_core_places_J4_lf {w0 : World} {c : Cx} {g h : AH} {E R : Value → W} {r : (List Int)} {N : Nat} {y14 : Int} {y16 : List Int} {k12_0 : G_api_Ins} {y16_v : Value} {y16_ls : List (List Value)} {k12_0_b : Nat} {k12 : Value → Value → W} {k12M : (List Int) → Int → Option ((List Int))} {gbk12 : AH} (M : g_core_places_J4_M N y14 y16 k12_0 k12M = some r) (S : Sep c g h [.sl 3 1 y16_v y16_ls, .bx k12_0_b [(vi k12_0.fOp), (vi k12_0.fA), (vi k12_0.fB), (vi k12_0.fC)]]) (y16_A : All2 ((rI .i64) g) y16_ls y16) (sbk12 : Sub gbk12 g) (Hk12 : ∀ {qy0 : List Int} {qy0_v : Value} {qy0_ls : List (List Value)} {qy1 : Int} {g2 h2 : AH}, k12M qy0 qy1 = some r → Sub gbk12 g2 → Sep c g2 h2 [.bx k12_0_b [(vi k12_0.fOp), (vi k12_0.fA), (vi k12_0.fB), (vi k12_0.fC)], .sl 3 1 qy0_v qy0_ls] → All2 ((rI .i64) g2) qy0_ls qy0 → k12 qy0_v (vi qy1) h2) (H : core_places_H c R r) : g_core_places_J4 w0 E R (vi y14) k12 y16_v h := by
  unfold g_core_places_J4
  unfold g_core_places_J4_M at M
  refine WP_add.2 ?_
  have S := S.f1
  exact Hk12 M sbk12 S y16_A
theorem g_core_places_J3_lf {w0 : World} {c : Cx} {g h : AH} {E R : Value → W} {r : (List Int)} {N : Nat} {v11 : GA3_Int} {y14 : Int} {v1 : G_api_Ins} {y13 : List Int} {v1_b : Nat} {y13_v : Value} {y13_ls : List (List Value)} {k12 : Value → Value → W} {k12M : (List Int) → Int → Option ((List Int))} {gbk12 : AH} (M : g_core_places_J3_M N v11 y14 v1 y13 k12M = some r) (S : Sep c g h [.bx v1_b [(vi v1.fOp), (vi v1.fA), (vi v1.fB), (vi v1.fC)], .sl 3 1 y13_v y13_ls]) (y13_A : All2 ((rI .i64) g) y13_ls y13) (sbk12 : Sub gbk12 g) (Hk12 : ∀ {qy0 : List Int} {qy0_v : Value} {qy0_ls : List (List Value)} {qy1 : Int} {g2 h2 : AH}, k12M qy0 qy1 = some r → Sub gbk12 g2 → Sep c g2 h2 [.bx v1_b [(vi v1.fOp), (vi v1.fA), (vi v1.fB), (vi v1.fC)], .sl 3 1 qy0_v qy0_ls] → All2 ((rI .i64) g2) qy0_ls qy0 → k12 qy0_v (vi qy1) h2) (H : core_places_H c R r) : g_core_places_J3 w0 E R (.agg ⟨[(vi v11.e0), (vi v11.e1), (vi v11.e2)]⟩) (vi y14) (mkP v1_b 0) y13_v k12 h := by
  unfold g_core_places_J3
  unfold g_core_places_J3_M at M
  obtain ⟨c_5, hx_6, M⟩ := bind_some M
  refine arr_idx1 [v11.e0, v11.e1, v11.e2] (fun q => (vi q)) rfl hx_6 ?_
  refine WP_eql.2 ?_
  refine br_lf (fun hc => ?_) (fun hc => ?_)
  · have M := cond_T hc M
    refine S.bldN [(vi v1.fOp), (vi v1.fA), (vi v1.fB), (vi v1.fC)] 0 rfl rfl rfl (by decide) ?_
    obtain ⟨c_7, hx_8, M⟩ := bind_some M
    refine core_parts_lf hx_8 S.sub S.ok (fun _ h  S1  => ?_)
    have S := S.call0 S1
    obtain ⟨c_9, hx_10, M⟩ := bind_some M
    refine arr_idx1 [c_7.e0, c_7.e1, c_7.e2] (fun q => (vi q)) rfl hx_10 ?_
    refine S.bsl [[(vi c_9)]] (fillL_step (m := [(vi c_9)]) (l2 := [(vi c_9)]) rfl rfl (Nat.le_of_ble_eq_true rfl) rfl rfl) rfl (by decide) (sz_cons rfl sz_nil) (one_cons rfl rfl) (fun v_11 h S => ?_)
    have A_12 : All2 ((rI .i64) g) [[(vi c_9)]] [c_9] := (All2.push All2.nil (show (rI .i64) g [(vi c_9)] c_9 from rfl))
    have S := S.f2
    obtain ⟨hb_15, M⟩ := gu_some M
    refine S.app (S.rd 1 rfl) (by rw [y13_A.1, A_12.1]; exact hb_15) (by decide) rfl (all_one (one_I .i64) A_12) (all_one (one_I .i64) y13_A) (fun v_13 h S => ?_)
    have A_14 : All2 ((rI .i64) g) (y13_ls ++ [[(vi c_9)]]) (y13 ++ [c_9]) := All2.append y13_A A_12
    have S := S.f2
    have S := S.f1
    have S := S.t2
    exact g_core_places_J4_lf M S A_14 sbk12 Hk12 H
  · have M := cond_F hc M
    have S := S.f1
    exact g_core_places_J4_lf M S y13_A sbk12 Hk12 H
theorem g_core_places_J1_lf {w0 : World} {c : Cx} {g h : AH} {E R : Value → W} {r : (List Int)} {N : Nat} {y9 : List Int} {y9_v : Value} {y9_ls : List (List Value)}  (M : g_core_places_J1_M N y9 = some r) (S : Sep c g h [.sl 3 1 y9_v y9_ls]) (y9_A : All2 ((rI .i64) g) y9_ls y9)  (H : core_places_H c R r) : g_core_places_J1 w0 E R y9_v h := by
  unfold g_core_places_J1
  unfold g_core_places_J1_M at M
  obtain ⟨g, sg, S, F_16⟩ := S.fz y9_A (mono_I .i64)
  cases M
  exact H _ _ y9_v S.drops F_16
theorem g_core_places_L2_lf {w0 : World} {c : Cx} {g h : AH} {E R : Value → W} {r : (List Int)} {N : Nat} {v11 : GA3_Int} {v1 : G_api_Ins} {y13 : List Int} {y14 : Int} {v1_b : Nat} {y13_v : Value} {y13_ls : List (List Value)} {k12 : Value → Value → W} {k12M : (List Int) → Int → Option ((List Int))} {gbk12 : AH} (M : g_core_places_L2_M N v11 v1 y13 y14 k12M = some r) (S : Sep c g h [.bx v1_b [(vi v1.fOp), (vi v1.fA), (vi v1.fB), (vi v1.fC)], .sl 3 1 y13_v y13_ls]) (y13_A : All2 ((rI .i64) g) y13_ls y13) (sbk12 : Sub gbk12 g) (Hk12 : ∀ {qy0 : List Int} {qy0_v : Value} {qy0_ls : List (List Value)} {qy1 : Int} {g2 h2 : AH}, k12M qy0 qy1 = some r → Sub gbk12 g2 → Sep c g2 h2 [.bx v1_b [(vi v1.fOp), (vi v1.fA), (vi v1.fB), (vi v1.fC)], .sl 3 1 qy0_v qy0_ls] → All2 ((rI .i64) g2) qy0_ls qy0 → k12 qy0_v (vi qy1) h2) (H : core_places_H c R r) : g_core_places_L2 w0 E R (.agg ⟨[(vi v11.e0), (vi v11.e1), (vi v11.e2)]⟩) (mkP v1_b 0) k12 y13_v (vi y14) h := by
  unfold g_core_places_L2
  unfold g_core_places_L2_M at M
  refine WP_lss.2 ?_
  refine br_lf (fun hc => ?_) (fun hc => ?_)
  · have M := cond_T hc M
    exact g_core_places_J3_lf M S y13_A sbk12 Hk12 H
  · have M := cond_F hc M
    have S := S.f1
    have S := S.t1
    exact g_core_places_J1_lf M S y13_A H
theorem g_core_places_L2_li {w0 : World} {c : Cx} {E R : Value → W} {r : (List Int)} {N : Nat} {v11 : GA3_Int} {v1 : G_api_Ins} {v1_b : Nat}   (H : core_places_H c R r) : ∀ (n : Nat) {y13 : List Int} {y14 : Int} {y13_v : Value} {y13_ls : List (List Value)} {g h : AH}, g_core_places_L2_I N v11 v1 n y13 y14 = some r → Sep c g h [.bx v1_b [(vi v1.fOp), (vi v1.fA), (vi v1.fB), (vi v1.fC)], .sl 3 1 y13_v y13_ls] → All2 ((rI .i64) g) y13_ls y13 → LPn (α := Value × Value) (fun k a => g_core_places_L2 w0 E R (.agg ⟨[(vi v11.e0), (vi v11.e1), (vi v11.e2)]⟩) (mkP v1_b 0) (fun b0 b1 => k (b0, b1)) a.1 a.2) n (y13_v, (vi y14)) h := by
  intro n
  induction n with
  | zero =>
    intro y13 y14 y13_v y13_ls g h M S y13_A
    unfold g_core_places_L2_I at M; cases M
  | succ n ih =>
    intro y13 y14 y13_v y13_ls g h M S y13_A
    exact g_core_places_L2_lf M S y13_A  (Sub.refl g) (fun M2 sub S2 qy0_A => ih M2 S2 qy0_A ) H
theorem core_places_lf {w0 : World} {g h : AH} {Q : CR → AH → Prop} {r : (List Int)} {N : Nat} {x0 : G_api_Ins} (M : core_places_M N x0 = some r) (sg : Sub g h) (ok : h.Ok)  (H : core_places_H ⟨g, h, []⟩ (fun v => Q (.ret v)) r) : WF PP w0 id_core_places [(.agg ⟨[(vi x0.fOp), (vi x0.fA), (vi x0.fB), (vi x0.fC)]⟩)] h Q := by
  refine g_core_places_wp _ ?_
  have S := Sep.start sg ok
  unfold g_core_places_F
  unfold core_places_M at M
  refine S.box [(vi x0.fOp), (vi x0.fA), (vi x0.fB), (vi x0.fC)] rfl (one_cons rfl (one_cons rfl (one_cons rfl (one_cons rfl rfl)))) (fun b_1 h S => ?_)
  refine WP_fieldAddr.2 ?_
  refine S.bld1 0 rfl rfl ?_
  obtain ⟨c_2, hx_3, M⟩ := bind_some M
  refine core_formOf_lf x0.fOp S.sub S.ok hx_3 (fun _ h  S1  => ?_)
  have S := S.call0 S1
  refine (WP_extract rfl).2 ?_
  refine (WP_extract rfl).2 ?_
  refine S.alloc (l := [(.string (⟨⟨[]⟩⟩ : ByteArray)), (vi 0), (vi 0), (vi 0), (vi 0), (vi 0), (vi 0), (.bool false), (.bool false)]) (one_cons rfl (one_cons rfl (one_cons rfl (one_cons rfl (one_cons rfl (one_cons rfl (one_cons rfl (one_cons rfl (one_cons rfl rfl))))))))) (fun b_4 h S => ?_)
  refine S.bst [(.string c_2.1.fname), (vi c_2.1.fhas.e0), (vi c_2.1.fhas.e1), (vi c_2.1.fhas.e2), (vi c_2.1.fwrites), (vi c_2.1.freads.e0), (vi c_2.1.freads.e1), (.bool c_2.1.fraises), (.bool c_2.1.fendsNow)] [(.string c_2.1.fname), (vi c_2.1.fhas.e0), (vi c_2.1.fhas.e1), (vi c_2.1.fhas.e2), (vi c_2.1.fwrites), (vi c_2.1.freads.e0), (vi c_2.1.freads.e1), (.bool c_2.1.fraises), (.bool c_2.1.fendsNow)] rfl rfl (one_cons rfl (one_cons rfl (one_cons rfl (one_cons rfl (one_cons rfl (one_cons rfl (one_cons rfl (one_cons rfl (one_cons rfl rfl))))))))) (Nat.le_of_ble_eq_true rfl) rfl (fun h S => ?_)
  refine WP_fieldAddr.2 ?_
  refine S.bldN [(vi c_2.1.fhas.e0), (vi c_2.1.fhas.e1), (vi c_2.1.fhas.e2)] 0 rfl rfl rfl (by decide) ?_
  have S := S.nilsl 3 1
  have S := S.f2
  have S := S.t2
  exact ⟨N, g_core_places_L2_li  H _ M S (All2.nil (R := (rI .i64) g)) ⟩
def g_slices_IndexFunc_int_int_J4_M (N : Nat) (y3 : Int) (k2M : Int → Option Int) : Option Int :=
 k2M (wrapQ .i64 (y3 + 1))
def g_slices_IndexFunc_int_int_J3_M (N : Nat) (x0 : List Int) (y3 : Int) (x1 : Int → Option Bool) (k2M : Int → Option Int) : Option Int :=
(ix x0 y3).bind fun c_1 =>
(x1 c_1).bind fun c_7 =>
 bif c_7 then (
 some y3) else (
 g_slices_IndexFunc_int_int_J4_M N y3 k2M)
def g_slices_IndexFunc_int_int_J1_M (N : Nat)   : Option Int :=
 some (-1)
def g_slices_IndexFunc_int_int_L2_M (N : Nat) (v1 : Int) (x0 : List Int) (x1 : Int → Option Bool) (y3 : Int) (k2M : Int → Option Int) : Option Int :=
 bif (decide (y3 < v1)) then (
 g_slices_IndexFunc_int_int_J3_M N x0 y3 x1 k2M) else (
 g_slices_IndexFunc_int_int_J1_M N )
def g_slices_IndexFunc_int_int_L2_I (N : Nat) (v1 : Int) (x0 : List Int) (x1 : Int → Option Bool)  : Nat → Int → Option Int
  | 0, _ => none
  | n + 1, y3 => g_slices_IndexFunc_int_int_L2_M N v1 x0 x1 y3  (fun qy0 => g_slices_IndexFunc_int_int_L2_I N v1 x0 x1 n qy0)
def slices_IndexFunc_int_int_M (N : Nat) (x0 : List Int) (x1 : Int → Option Bool) : Option Int :=
 g_slices_IndexFunc_int_int_L2_I N (x0.length : Int) x0 x1 N 0
abbrev slices_IndexFunc_int_int_H (c : Cx) (R : Value → W) (r : Int) : Prop := ∀ (g' h' : AH), Sep c g' h' [] → R (vi r) h'
theorem g_slices_IndexFunc_int_int_J4_lf {w0 : World} {c : Cx} {g h : AH} {E R : Value → W} {r : Int} {N : Nat} {y3 : Int} {k2 : Value → W} {k2M : Int → Option Int} {gbk2 : AH} (M : g_slices_IndexFunc_int_int_J4_M N y3 k2M = some r) (S : Sep c g h [])  (sbk2 : Sub gbk2 g) (Hk2 : ∀ {qy0 : Int} {g2 h2 : AH}, k2M qy0 = some r → Sub gbk2 g2 → Sep c g2 h2 [] → k2 (vi qy0) h2) (H : slices_IndexFunc_int_int_H c R r) : g_slices_IndexFunc_int_int_J4 w0 E R (vi y3) k2 h := by
  unfold g_slices_IndexFunc_int_int_J4
  unfold g_slices_IndexFunc_int_int_J4_M at M
  refine WP_add.2 ?_
  exact Hk2 M sbk2 S
theorem g_slices_IndexFunc_int_int_J3_lf {w0 : World} {c : Cx} {g h : AH} {E R : Value → W} {r : Int} {N : Nat} {x0 : List Int} {y3 : Int} {x1 : Int → Option Bool} {x0_v x1_v : Value} {k2 : Value → W} {k2M : Int → Option Int} {gbk2 : AH} (M : g_slices_IndexFunc_int_int_J3_M N x0 y3 x1 k2M = some r) (S : Sep c g h []) (x0_F : FzS (rI .i64) 1 g x0_v x0) (x1_F : Gfn_func_int_bool w0 g x1_v x1) (sbk2 : Sub gbk2 g) (Hk2 : ∀ {qy0 : Int} {g2 h2 : AH}, k2M qy0 = some r → Sub gbk2 g2 → Sep c g2 h2 [] → k2 (vi qy0) h2) (H : slices_IndexFunc_int_int_H c R r) : g_slices_IndexFunc_int_int_J3 w0 E R x0_v (vi y3) x1_v k2 h := by
  unfold g_slices_IndexFunc_int_int_J3
  unfold g_slices_IndexFunc_int_int_J3_M at M
  obtain ⟨c_1, hx_2, M⟩ := bind_some M
  refine FzS.idx x0_F hx_2 (fun b_3 o_4 vs E_6 r_5 rp => ?_)
  cases rp
  refine S.fld1 (r_5 0 _ rfl) ?_
  obtain ⟨c_7, hx_8, M⟩ := bind_some M
  refine x1_F.2 c_1 _ _ _ _ _ (Sub.refl _) S.sub S.ok  hx_8 (fun _ h  S1  => ?_)
  have S := S.call0 S1
  refine br_lf (fun hc => ?_) (fun hc => ?_)
  · have M := cond_T hc M
    cases M
    exact H _ _  S.drops
  · have M := cond_F hc M
    exact g_slices_IndexFunc_int_int_J4_lf M S sbk2 Hk2 H
theorem g_slices_IndexFunc_int_int_J1_lf {w0 : World} {c : Cx} {g h : AH} {E R : Value → W} {r : Int} {N : Nat}   (M : g_slices_IndexFunc_int_int_J1_M N  = some r) (S : Sep c g h [])   (H : slices_IndexFunc_int_int_H c R r) : g_slices_IndexFunc_int_int_J1 w0 E R  h := by
  unfold g_slices_IndexFunc_int_int_J1
  unfold g_slices_IndexFunc_int_int_J1_M at M
  cases M
  exact H _ _  S.drops
theorem g_slices_IndexFunc_int_int_L2_lf {w0 : World} {c : Cx} {g h : AH} {E R : Value → W} {r : Int} {N : Nat} {v1 : Int} {x0 : List Int} {x1 : Int → Option Bool} {y3 : Int} {x0_v x1_v : Value} {k2 : Value → W} {k2M : Int → Option Int} {gbk2 : AH} (M : g_slices_IndexFunc_int_int_L2_M N v1 x0 x1 y3 k2M = some r) (S : Sep c g h []) (x0_F : FzS (rI .i64) 1 g x0_v x0) (x1_F : Gfn_func_int_bool w0 g x1_v x1) (sbk2 : Sub gbk2 g) (Hk2 : ∀ {qy0 : Int} {g2 h2 : AH}, k2M qy0 = some r → Sub gbk2 g2 → Sep c g2 h2 [] → k2 (vi qy0) h2) (H : slices_IndexFunc_int_int_H c R r) : g_slices_IndexFunc_int_int_L2 w0 E R (vi v1) x0_v x1_v k2 (vi y3) h := by
  unfold g_slices_IndexFunc_int_int_L2
  unfold g_slices_IndexFunc_int_int_L2_M at M
  refine WP_lss.2 ?_
  refine br_lf (fun hc => ?_) (fun hc => ?_)
  · have M := cond_T hc M
    exact g_slices_IndexFunc_int_int_J3_lf M S x0_F x1_F sbk2 Hk2 H
  · have M := cond_F hc M
    exact g_slices_IndexFunc_int_int_J1_lf M S  H
theorem g_slices_IndexFunc_int_int_L2_li {w0 : World} {c : Cx} {E R : Value → W} {r : Int} {N : Nat} {v1 : Int} {x0 : List Int} {x1 : Int → Option Bool} {x0_v x1_v : Value}   (H : slices_IndexFunc_int_int_H c R r) : ∀ (n : Nat) {y3 : Int} {g h : AH}, g_slices_IndexFunc_int_int_L2_I N v1 x0 x1 n y3 = some r → Sep c g h [] → FzS (rI .i64) 1 g x0_v x0 → Gfn_func_int_bool w0 g x1_v x1 → LPn (α := Value) (fun k a => g_slices_IndexFunc_int_int_L2 w0 E R (vi v1) x0_v x1_v k a) n (vi y3) h := by
  intro n
  induction n with
  | zero =>
    intro y3  g h M S x0_F x1_F
    unfold g_slices_IndexFunc_int_int_L2_I at M; cases M
  | succ n ih =>
    intro y3  g h M S x0_F x1_F
    exact g_slices_IndexFunc_int_int_L2_lf M S x0_F x1_F  (Sub.refl g) (fun M2 sub S2  => ih M2 S2 (FzS.mono x0_F (mono_I .i64) sub) (Gfn_func_int_bool.mono x1_F sub) ) H
theorem slices_IndexFunc_int_int_lf {w0 : World} {g h : AH} {Q : CR → AH → Prop} {r : Int} {N : Nat} {x0 : List Int} {x1 : Int → Option Bool} {x0_v x1_v : Value} (M : slices_IndexFunc_int_int_M N x0 x1 = some r) (sg : Sub g h) (ok : h.Ok) (x0_F : FzS (rI .i64) 1 g x0_v x0) (x1_F : Gfn_func_int_bool w0 g x1_v x1) (H : slices_IndexFunc_int_int_H ⟨g, h, []⟩ (fun v => Q (.ret v)) r) : WF PP w0 id_slices_IndexFunc_int_int [x0_v, x1_v] h Q := by
  refine g_slices_IndexFunc_int_int_wp _ _ ?_
  have S := Sep.start sg ok
  unfold g_slices_IndexFunc_int_int_F
  unfold slices_IndexFunc_int_int_M at M
  refine x0_F.len ?_
  exact ⟨N, g_slices_IndexFunc_int_int_L2_li  H _ M S x0_F x1_F ⟩
def slices_ContainsFunc_int_int_M (N : Nat) (x0 : List Int) (x1 : Int → Option Bool) : Option Bool :=
(slices_IndexFunc_int_int_M N x0 x1).bind fun c_1 =>
 some (decide (0 ≤ c_1))
abbrev slices_ContainsFunc_int_int_H (c : Cx) (R : Value → W) (r : Bool) : Prop := ∀ (g' h' : AH), Sep c g' h' [] → R (.bool r) h'
theorem slices_ContainsFunc_int_int_lf {w0 : World} {g h : AH} {Q : CR → AH → Prop} {r : Bool} {N : Nat} {x0 : List Int} {x1 : Int → Option Bool} {x0_v x1_v : Value} (M : slices_ContainsFunc_int_int_M N x0 x1 = some r) (sg : Sub g h) (ok : h.Ok) (x0_F : FzS (rI .i64) 1 g x0_v x0) (x1_F : Gfn_func_int_bool w0 g x1_v x1) (H : slices_ContainsFunc_int_int_H ⟨g, h, []⟩ (fun v => Q (.ret v)) r) : WF PP w0 id_slices_ContainsFunc_int_int [x0_v, x1_v] h Q := by
  refine g_slices_ContainsFunc_int_int_wp _ _ ?_
  have S := Sep.start sg ok
  unfold g_slices_ContainsFunc_int_int_F
  unfold slices_ContainsFunc_int_int_M at M
  obtain ⟨c_1, hx_2, M⟩ := bind_some M
  refine slices_IndexFunc_int_int_lf hx_2 S.sub S.ok x0_F x1_F (fun _ h  S1  => ?_)
  have S := S.call0 S1
  refine WP_geq.2 ?_
  cases M
  exact H _ _  S.drops
def g_slices_IndexFunc_api_Guard_api_Guard_J4_M (N : Nat) (y3 : Int) (k2M : Int → Option Int) : Option Int :=
 k2M (wrapQ .i64 (y3 + 1))
def g_slices_IndexFunc_api_Guard_api_Guard_J3_M (N : Nat) (x0 : List G_api_Guard) (y3 : Int) (x1 : G_api_Guard → Option Bool) (k2M : Int → Option Int) : Option Int :=
(ix x0 y3).bind fun c_1 =>
(x1 c_1).bind fun c_7 =>
 bif c_7 then (
 some y3) else (
 g_slices_IndexFunc_api_Guard_api_Guard_J4_M N y3 k2M)
def g_slices_IndexFunc_api_Guard_api_Guard_J1_M (N : Nat)   : Option Int :=
 some (-1)
def g_slices_IndexFunc_api_Guard_api_Guard_L2_M (N : Nat) (v1 : Int) (x0 : List G_api_Guard) (x1 : G_api_Guard → Option Bool) (y3 : Int) (k2M : Int → Option Int) : Option Int :=
 bif (decide (y3 < v1)) then (
 g_slices_IndexFunc_api_Guard_api_Guard_J3_M N x0 y3 x1 k2M) else (
 g_slices_IndexFunc_api_Guard_api_Guard_J1_M N )
def g_slices_IndexFunc_api_Guard_api_Guard_L2_I (N : Nat) (v1 : Int) (x0 : List G_api_Guard) (x1 : G_api_Guard → Option Bool)  : Nat → Int → Option Int
  | 0, _ => none
  | n + 1, y3 => g_slices_IndexFunc_api_Guard_api_Guard_L2_M N v1 x0 x1 y3  (fun qy0 => g_slices_IndexFunc_api_Guard_api_Guard_L2_I N v1 x0 x1 n qy0)
def slices_IndexFunc_api_Guard_api_Guard_M (N : Nat) (x0 : List G_api_Guard) (x1 : G_api_Guard → Option Bool) : Option Int :=
 g_slices_IndexFunc_api_Guard_api_Guard_L2_I N (x0.length : Int) x0 x1 N 0
abbrev slices_IndexFunc_api_Guard_api_Guard_H (c : Cx) (R : Value → W) (r : Int) : Prop := ∀ (g' h' : AH), Sep c g' h' [] → R (vi r) h'
theorem g_slices_IndexFunc_api_Guard_api_Guard_J4_lf {w0 : World} {c : Cx} {g h : AH} {E R : Value → W} {r : Int} {N : Nat} {y3 : Int} {k2 : Value → W} {k2M : Int → Option Int} {gbk2 : AH} (M : g_slices_IndexFunc_api_Guard_api_Guard_J4_M N y3 k2M = some r) (S : Sep c g h [])  (sbk2 : Sub gbk2 g) (Hk2 : ∀ {qy0 : Int} {g2 h2 : AH}, k2M qy0 = some r → Sub gbk2 g2 → Sep c g2 h2 [] → k2 (vi qy0) h2) (H : slices_IndexFunc_api_Guard_api_Guard_H c R r) : g_slices_IndexFunc_api_Guard_api_Guard_J4 w0 E R (vi y3) k2 h := by
  unfold g_slices_IndexFunc_api_Guard_api_Guard_J4
  unfold g_slices_IndexFunc_api_Guard_api_Guard_J4_M at M
  refine WP_add.2 ?_
  exact Hk2 M sbk2 S
theorem g_slices_IndexFunc_api_Guard_api_Guard_J3_lf {w0 : World} {c : Cx} {g h : AH} {E R : Value → W} {r : Int} {N : Nat} {x0 : List G_api_Guard} {y3 : Int} {x1 : G_api_Guard → Option Bool} {x0_v x1_v : Value} {k2 : Value → W} {k2M : Int → Option Int} {gbk2 : AH} (M : g_slices_IndexFunc_api_Guard_api_Guard_J3_M N x0 y3 x1 k2M = some r) (S : Sep c g h []) (x0_F : FzS G_api_Guard.rep 3 g x0_v x0) (x1_F : Gfn_func_api_Guard_bool w0 g x1_v x1) (sbk2 : Sub gbk2 g) (Hk2 : ∀ {qy0 : Int} {g2 h2 : AH}, k2M qy0 = some r → Sub gbk2 g2 → Sep c g2 h2 [] → k2 (vi qy0) h2) (H : slices_IndexFunc_api_Guard_api_Guard_H c R r) : g_slices_IndexFunc_api_Guard_api_Guard_J3 w0 E R x0_v (vi y3) x1_v k2 h := by
  unfold g_slices_IndexFunc_api_Guard_api_Guard_J3
  unfold g_slices_IndexFunc_api_Guard_api_Guard_J3_M at M
  obtain ⟨c_1, hx_2, M⟩ := bind_some M
  refine FzS.idx x0_F hx_2 (fun b_3 o_4 vs E_6 r_5 rp => ?_)
  cases rp
  refine S.fldN r_5 rfl (by decide) ?_
  obtain ⟨c_7, hx_8, M⟩ := bind_some M
  refine x1_F.2 c_1 _ _ _ _ _ (Sub.refl _) S.sub S.ok  hx_8 (fun _ h  S1  => ?_)
  have S := S.call0 S1
  refine br_lf (fun hc => ?_) (fun hc => ?_)
  · have M := cond_T hc M
    cases M
    exact H _ _  S.drops
  · have M := cond_F hc M
    exact g_slices_IndexFunc_api_Guard_api_Guard_J4_lf M S sbk2 Hk2 H
theorem g_slices_IndexFunc_api_Guard_api_Guard_J1_lf {w0 : World} {c : Cx} {g h : AH} {E R : Value → W} {r : Int} {N : Nat}   (M : g_slices_IndexFunc_api_Guard_api_Guard_J1_M N  = some r) (S : Sep c g h [])   (H : slices_IndexFunc_api_Guard_api_Guard_H c R r) : g_slices_IndexFunc_api_Guard_api_Guard_J1 w0 E R  h := by
  unfold g_slices_IndexFunc_api_Guard_api_Guard_J1
  unfold g_slices_IndexFunc_api_Guard_api_Guard_J1_M at M
  cases M
  exact H _ _  S.drops
theorem g_slices_IndexFunc_api_Guard_api_Guard_L2_lf {w0 : World} {c : Cx} {g h : AH} {E R : Value → W} {r : Int} {N : Nat} {v1 : Int} {x0 : List G_api_Guard} {x1 : G_api_Guard → Option Bool} {y3 : Int} {x0_v x1_v : Value} {k2 : Value → W} {k2M : Int → Option Int} {gbk2 : AH} (M : g_slices_IndexFunc_api_Guard_api_Guard_L2_M N v1 x0 x1 y3 k2M = some r) (S : Sep c g h []) (x0_F : FzS G_api_Guard.rep 3 g x0_v x0) (x1_F : Gfn_func_api_Guard_bool w0 g x1_v x1) (sbk2 : Sub gbk2 g) (Hk2 : ∀ {qy0 : Int} {g2 h2 : AH}, k2M qy0 = some r → Sub gbk2 g2 → Sep c g2 h2 [] → k2 (vi qy0) h2) (H : slices_IndexFunc_api_Guard_api_Guard_H c R r) : g_slices_IndexFunc_api_Guard_api_Guard_L2 w0 E R (vi v1) x0_v x1_v k2 (vi y3) h := by
  unfold g_slices_IndexFunc_api_Guard_api_Guard_L2
  unfold g_slices_IndexFunc_api_Guard_api_Guard_L2_M at M
  refine WP_lss.2 ?_
  refine br_lf (fun hc => ?_) (fun hc => ?_)
  · have M := cond_T hc M
    exact g_slices_IndexFunc_api_Guard_api_Guard_J3_lf M S x0_F x1_F sbk2 Hk2 H
  · have M := cond_F hc M
    exact g_slices_IndexFunc_api_Guard_api_Guard_J1_lf M S  H
theorem g_slices_IndexFunc_api_Guard_api_Guard_L2_li {w0 : World} {c : Cx} {E R : Value → W} {r : Int} {N : Nat} {v1 : Int} {x0 : List G_api_Guard} {x1 : G_api_Guard → Option Bool} {x0_v x1_v : Value}   (H : slices_IndexFunc_api_Guard_api_Guard_H c R r) : ∀ (n : Nat) {y3 : Int} {g h : AH}, g_slices_IndexFunc_api_Guard_api_Guard_L2_I N v1 x0 x1 n y3 = some r → Sep c g h [] → FzS G_api_Guard.rep 3 g x0_v x0 → Gfn_func_api_Guard_bool w0 g x1_v x1 → LPn (α := Value) (fun k a => g_slices_IndexFunc_api_Guard_api_Guard_L2 w0 E R (vi v1) x0_v x1_v k a) n (vi y3) h := by
  intro n
  induction n with
  | zero =>
    intro y3  g h M S x0_F x1_F
    unfold g_slices_IndexFunc_api_Guard_api_Guard_L2_I at M; cases M
  | succ n ih =>
    intro y3  g h M S x0_F x1_F
    exact g_slices_IndexFunc_api_Guard_api_Guard_L2_lf M S x0_F x1_F  (Sub.refl g) (fun M2 sub S2  => ih M2 S2 (FzS.mono x0_F G_api_Guard.mono sub) (Gfn_func_api_Guard_bool.mono x1_F sub) ) H
theorem slices_IndexFunc_api_Guard_api_Guard_lf {w0 : World} {g h : AH} {Q : CR → AH → Prop} {r : Int} {N : Nat} {x0 : List G_api_Guard} {x1 : G_api_Guard → Option Bool} {x0_v x1_v : Value} (M : slices_IndexFunc_api_Guard_api_Guard_M N x0 x1 = some r) (sg : Sub g h) (ok : h.Ok) (x0_F : FzS G_api_Guard.rep 3 g x0_v x0) (x1_F : Gfn_func_api_Guard_bool w0 g x1_v x1) (H : slices_IndexFunc_api_Guard_api_Guard_H ⟨g, h, []⟩ (fun v => Q (.ret v)) r) : WF PP w0 id_slices_IndexFunc_api_Guard_api_Guard [x0_v, x1_v] h Q := by
  refine g_slices_IndexFunc_api_Guard_api_Guard_wp _ _ ?_
  have S := Sep.start sg ok
  unfold g_slices_IndexFunc_api_Guard_api_Guard_F
  unfold slices_IndexFunc_api_Guard_api_Guard_M at M
  refine x0_F.len ?_
  exact ⟨N, g_slices_IndexFunc_api_Guard_api_Guard_L2_li  H _ M S x0_F x1_F ⟩
def slices_ContainsFunc_api_Guard_api_Guard_M (N : Nat) (x0 : List G_api_Guard) (x1 : G_api_Guard → Option Bool) : Option Bool :=
(slices_IndexFunc_api_Guard_api_Guard_M N x0 x1).bind fun c_1 =>
 some (decide (0 ≤ c_1))
abbrev slices_ContainsFunc_api_Guard_api_Guard_H (c : Cx) (R : Value → W) (r : Bool) : Prop := ∀ (g' h' : AH), Sep c g' h' [] → R (.bool r) h'
theorem slices_ContainsFunc_api_Guard_api_Guard_lf {w0 : World} {g h : AH} {Q : CR → AH → Prop} {r : Bool} {N : Nat} {x0 : List G_api_Guard} {x1 : G_api_Guard → Option Bool} {x0_v x1_v : Value} (M : slices_ContainsFunc_api_Guard_api_Guard_M N x0 x1 = some r) (sg : Sub g h) (ok : h.Ok) (x0_F : FzS G_api_Guard.rep 3 g x0_v x0) (x1_F : Gfn_func_api_Guard_bool w0 g x1_v x1) (H : slices_ContainsFunc_api_Guard_api_Guard_H ⟨g, h, []⟩ (fun v => Q (.ret v)) r) : WF PP w0 id_slices_ContainsFunc_api_Guard_api_Guard [x0_v, x1_v] h Q := by
  refine g_slices_ContainsFunc_api_Guard_api_Guard_wp _ _ ?_
  have S := Sep.start sg ok
  unfold g_slices_ContainsFunc_api_Guard_api_Guard_F
  unfold slices_ContainsFunc_api_Guard_api_Guard_M at M
  obtain ⟨c_1, hx_2, M⟩ := bind_some M
  refine slices_IndexFunc_api_Guard_api_Guard_lf hx_2 S.sub S.ok x0_F x1_F (fun _ h  S1  => ?_)
  have S := S.call0 S1
  refine WP_geq.2 ?_
  cases M
  exact H _ _  S.drops
def core_plain_1_M (x0 : Int) (x1 : Int) : Option Bool :=
(core_within_M x0 0 (wrapQ .i64 (x1 - 1))).bind fun c_1 =>
 some (!c_1)
abbrev core_plain_1_H (c : Cx) (R : Value → W) (r : Bool) : Prop := ∀ (g' h' : AH), Sep c g' h' [] → R (.bool r) h'
theorem core_plain_1_lf {w0 : World} {g h : AH} {Q : CR → AH → Prop} {r : Bool} {x0 x1 : Int} {x1_b : Nat} (M : core_plain_1_M x0 x1 = some r) (sg : Sub g h) (ok : h.Ok) (x1_r : g.rds x1_b 0 [(vi x1)]) (H : core_plain_1_H ⟨g, h, []⟩ (fun v => Q (.ret v)) r) : WF PP w0 id_core_plain_1 [(vi x0), (mkP x1_b 0)] h Q := by
  refine g_core_plain_1_wp _ _ ?_
  have S := Sep.start sg ok
  unfold g_core_plain_1_F
  unfold core_plain_1_M at M
  refine S.fld1 (x1_r 0 _ rfl) ?_
  refine WP_sub.2 ?_
  obtain ⟨c_1, hx_2, M⟩ := bind_some M
  refine core_within_lf hx_2 S.sub S.ok (fun _ h  S1  => ?_)
  have S := S.call0 S1
  refine WP_notB.2 ?_
  cases M
  exact H _ _  S.drops
def g_core_plain_2_P1_M (v1 : G_api_Guard) (x1 : Int) (v15 : Bool)  : Option Bool :=
 bif v15 then (
 some true) else (
(core_within_M v1.fAt 0 (wrapQ .i64 (x1 - 1))).bind fun c_2 =>
 some (!c_2))
def g_core_plain_2_P2_M (v1 : G_api_Guard) (x1 : Int) (v10 : Bool)  : Option Bool :=
 bif v10 then (
 g_core_plain_2_P1_M v1 x1 true) else (
 g_core_plain_2_P1_M v1 x1 (decide (x1 < v1.fTo)))
def core_plain_2_M (x0 : G_api_Guard) (x1 : Int) : Option Bool :=
 bif (decide (x0.fFrom < 0)) then (
 g_core_plain_2_P2_M x0 x1 true) else (
 g_core_plain_2_P2_M x0 x1 (decide (x0.fTo ≤ x0.fFrom)))
abbrev core_plain_2_H (c : Cx) (R : Value → W) (r : Bool) : Prop := ∀ (g' h' : AH), Sep c g' h' [] → R (.bool r) h'
theorem g_core_plain_2_P1_lf {w0 : World} {c : Cx} {g h : AH} {E R : Value → W} {r : Bool} {v1 : G_api_Guard} {x1 : Int} {v15 : Bool} {v1_b x1_b : Nat}  (M : g_core_plain_2_P1_M v1 x1 v15 = some r) (S : Sep c g h [.bx v1_b [(vi v1.fFrom), (vi v1.fTo), (vi v1.fAt)]]) (x1_r : g.rds x1_b 0 [(vi x1)])  (H : core_plain_2_H c R r) : g_core_plain_2_P1 w0 E R (mkP v1_b 0) (mkP x1_b 0) (.bool v15) h := by
  unfold g_core_plain_2_P1
  unfold g_core_plain_2_P1_M at M
  cases hc : v15
  · have M := cond_F hc M
    refine gd_hit rfl ?_
    refine WP_fieldAddr.2 ?_
    refine gd_hit rfl ?_
    refine S.bld1 0 rfl rfl ?_
    refine gd_hit rfl ?_
    refine S.fld1 (x1_r 0 _ rfl) ?_
    refine gd_hit rfl ?_
    refine WP_sub.2 ?_
    refine gd_hit rfl ?_
    obtain ⟨c_2, hx_3, M⟩ := bind_some M
    refine core_within_lf hx_3 S.sub S.ok (fun _ h  S1  => ?_)
    have S := S.call0 S1
    refine gd_hit rfl ?_
    refine WP_notB.2 ?_
    refine WP_pick.2 ?_
    cases M
    exact H _ _  S.drops
  · have M := cond_T hc M
    refine gd_mis (by decide) ?_
    refine gd_mis (by decide) ?_
    refine gd_mis (by decide) ?_
    refine gd_mis (by decide) ?_
    refine gd_mis (by decide) ?_
    refine gd_mis (by decide) ?_
    refine WP_pick.2 ?_
    cases M
    exact H _ _  S.drops
theorem g_core_plain_2_P2_lf {w0 : World} {c : Cx} {g h : AH} {E R : Value → W} {r : Bool} {v1 : G_api_Guard} {x1 : Int} {v10 : Bool} {v1_b x1_b : Nat}  (M : g_core_plain_2_P2_M v1 x1 v10 = some r) (S : Sep c g h [.bx v1_b [(vi v1.fFrom), (vi v1.fTo), (vi v1.fAt)]]) (x1_r : g.rds x1_b 0 [(vi x1)])  (H : core_plain_2_H c R r) : g_core_plain_2_P2 w0 E R (mkP v1_b 0) (mkP x1_b 0) (.bool v10) h := by
  unfold g_core_plain_2_P2
  unfold g_core_plain_2_P2_M at M
  cases hc : v10
  · have M := cond_F hc M
    refine gd_hit rfl ?_
    refine WP_fieldAddr.2 ?_
    refine gd_hit rfl ?_
    refine S.bld1 0 rfl rfl ?_
    refine gd_hit rfl ?_
    refine S.fld1 (x1_r 0 _ rfl) ?_
    refine gd_hit rfl ?_
    refine WP_gtr.2 ?_
    refine WP_pick.2 ?_
    exact g_core_plain_2_P1_lf M S x1_r H
  · have M := cond_T hc M
    refine gd_mis (by decide) ?_
    refine gd_mis (by decide) ?_
    refine gd_mis (by decide) ?_
    refine gd_mis (by decide) ?_
    refine WP_pick.2 ?_
    exact g_core_plain_2_P1_lf M S x1_r H
theorem core_plain_2_lf {w0 : World} {g h : AH} {Q : CR → AH → Prop} {r : Bool} {x0 : G_api_Guard} {x1 : Int} {x1_b : Nat} (M : core_plain_2_M x0 x1 = some r) (sg : Sub g h) (ok : h.Ok) (x1_r : g.rds x1_b 0 [(vi x1)]) (H : core_plain_2_H ⟨g, h, []⟩ (fun v => Q (.ret v)) r) : WF PP w0 id_core_plain_2 [(.agg ⟨[(vi x0.fFrom), (vi x0.fTo), (vi x0.fAt)]⟩), (mkP x1_b 0)] h Q := by
  refine g_core_plain_2_wp _ _ ?_
  have S := Sep.start sg ok
  unfold g_core_plain_2_F
  unfold core_plain_2_M at M
  refine S.box [(vi x0.fFrom), (vi x0.fTo), (vi x0.fAt)] rfl (one_cons rfl (one_cons rfl (one_cons rfl rfl))) (fun b_1 h S => ?_)
  refine WP_fieldAddr.2 ?_
  refine S.bld1 0 rfl rfl ?_
  refine WP_lss.2 ?_
  cases hc : (decide (x0.fFrom < 0))
  · have M := cond_F hc M
    refine gd_hit rfl ?_
    refine WP_fieldAddr.2 ?_
    refine gd_hit rfl ?_
    refine S.bld1 0 rfl rfl ?_
    refine gd_hit rfl ?_
    refine WP_fieldAddr.2 ?_
    refine gd_hit rfl ?_
    refine S.bld1 0 rfl rfl ?_
    refine gd_hit rfl ?_
    refine WP_geq.2 ?_
    refine WP_pick.2 ?_
    exact g_core_plain_2_P2_lf M S x1_r H
  · have M := cond_T hc M
    refine gd_mis (by decide) ?_
    refine gd_mis (by decide) ?_
    refine gd_mis (by decide) ?_
    refine gd_mis (by decide) ?_
    refine gd_mis (by decide) ?_
    refine WP_pick.2 ?_
    exact g_core_plain_2_P2_lf M S x1_r H
def g_core_plain_J5_M (N : Nat) (y16 : Int) (k15_0 : G_api_Unit) (k15M : Int → Option Bool) : Option Bool :=
 k15M (wrapQ .i64 (y16 + 1))
def g_core_plain_P1_M (N : Nat) (y16 : Int) (v35 : Bool) (k15_0 : G_api_Unit) (k15M : Int → Option Bool) : Option Bool :=
 bif v35 then (
 some false) else (
 g_core_plain_J5_M N y16 k15_0 k15M)
def g_core_plain_J4_M (N : Nat) (v13 : List G_api_Ins) (y16 : Int) (v5 : Int) (k15_0 : G_api_Unit) (k15M : Int → Option Bool) : Option Bool :=
(ix v13 y16).bind fun c_10 =>
(core_formOf_M c_10.fOp).bind fun c_17 =>
 bif (!c_17.2) then (
 g_core_plain_P1_M N y16 true k15_0 k15M) else (
(core_places_M N c_10).bind fun c_20 =>
(slices_ContainsFunc_int_int_M N c_20 (fun a0 => core_plain_1_M a0 v5)).bind fun c_25 =>
 g_core_plain_P1_M N y16 c_25 k15_0 k15M)
def g_core_plain_J2_M (N : Nat) (v1 : G_api_Unit) (v5 : Int)  : Option Bool :=
(slices_ContainsFunc_api_Guard_api_Guard_M N v1.fGuards (fun a0 => core_plain_2_M a0 v5)).bind fun c_28 =>
 some (!c_28)
def g_core_plain_L3_M (N : Nat) (v14 : Int) (v13 : List G_api_Ins) (v5 : Int) (v1 : G_api_Unit) (y16 : Int) (k15M : Int → Option Bool) : Option Bool :=
 bif (decide (y16 < v14)) then (
 g_core_plain_J4_M N v13 y16 v5 v1 k15M) else (
 g_core_plain_J2_M N v1 v5)
def g_core_plain_L3_I (N : Nat) (v14 : Int) (v13 : List G_api_Ins) (v5 : Int) (v1 : G_api_Unit)  : Nat → Int → Option Bool
  | 0, _ => none
  | n + 1, y16 => g_core_plain_L3_M N v14 v13 v5 v1 y16  (fun qy0 => g_core_plain_L3_I N v14 v13 v5 v1 n qy0)
def g_core_plain_J1_M (N : Nat) (v1 : G_api_Unit) (v5 : Int)  : Option Bool :=
 g_core_plain_L3_I N (v1.fCode.length : Int) v1.fCode v5 v1 N 0
def g_core_plain_P2_M (N : Nat) (v1 : G_api_Unit) (v5 : Int) (v53 : Bool)  : Option Bool :=
 bif v53 then (
 some false) else (
 g_core_plain_J1_M N v1 v5)
def g_core_plain_P3_M (N : Nat) (v1 : G_api_Unit) (v5 : Int) (v48 : Bool)  : Option Bool :=
 bif v48 then (
 g_core_plain_P2_M N v1 v5 true) else (
(core_within_M v1.fFrame 0 200).bind fun c_7 =>
 g_core_plain_P2_M N v1 v5 (!c_7))
def g_core_plain_P4_M (N : Nat) (v1 : G_api_Unit) (v5 : Int) (v43 : Bool)  : Option Bool :=
 bif v43 then (
 g_core_plain_P3_M N v1 v5 true) else (
(core_within_M v1.fSlots 0 200).bind fun c_5 =>
 g_core_plain_P3_M N v1 v5 (!c_5))
def core_plain_M (N : Nat) (x0 : G_api_Unit) : Option Bool :=
(core_within_M (x0.fCode.length : Int) 1 600).bind fun c_3 =>
 bif (!c_3) then (
 g_core_plain_P4_M N x0 (x0.fCode.length : Int) true) else (
 g_core_plain_P4_M N x0 (x0.fCode.length : Int) (decide (40 < (x0.fGuards.length : Int))))
abbrev core_plain_H (c : Cx) (R : Value → W) (r : Bool) : Prop := ∀ (g' h' : AH), Sep c g' h' [] → R (.bool r) h'
theorem g_core_plain_J5_lf {w0 : World} {c : Cx} {g h : AH} {E R : Value → W} {r : Bool} {N : Nat} {y16 : Int} {k15_0 : G_api_Unit} {k15_0_b : Nat} {k15_0_w1 k15_0_w2 : Value} {k15 : Value → W} {k15M : Int → Option Bool} {gbk15 : AH} (M : g_core_plain_J5_M N y16 k15_0 k15M = some r) (S : Sep c g h [.bx k15_0_b [(.string k15_0.fClass), (.string k15_0.fName), (vi k15_0.fArgs), (vi k15_0.fSlots), (vi k15_0.fFrame), k15_0_w1, k15_0_w2]]) (k15_0_F1 : FzS G_api_Ins.rep 4 g k15_0_w1 k15_0.fCode) (k15_0_F2 : FzS G_api_Guard.rep 3 g k15_0_w2 k15_0.fGuards) (sbk15 : Sub gbk15 g) (Hk15 : ∀ {qy0 : Int} {g2 h2 : AH}, k15M qy0 = some r → Sub gbk15 g2 → Sep c g2 h2 [.bx k15_0_b [(.string k15_0.fClass), (.string k15_0.fName), (vi k15_0.fArgs), (vi k15_0.fSlots), (vi k15_0.fFrame), k15_0_w1, k15_0_w2]] → k15 (vi qy0) h2) (H : core_plain_H c R r) : g_core_plain_J5 w0 E R (vi y16) k15 h := by
  unfold g_core_plain_J5
  unfold g_core_plain_J5_M at M
  refine WP_add.2 ?_
  exact Hk15 M sbk15 S
theorem g_core_plain_P1_lf {w0 : World} {c : Cx} {g h : AH} {E R : Value → W} {r : Bool} {N : Nat} {y16 : Int} {v35 : Bool} {k15_0 : G_api_Unit} {k15_0_b : Nat} {k15_0_w1 k15_0_w2 : Value} {k15 : Value → W} {k15M : Int → Option Bool} {gbk15 : AH} (M : g_core_plain_P1_M N y16 v35 k15_0 k15M = some r) (S : Sep c g h [.bx k15_0_b [(.string k15_0.fClass), (.string k15_0.fName), (vi k15_0.fArgs), (vi k15_0.fSlots), (vi k15_0.fFrame), k15_0_w1, k15_0_w2]]) (k15_0_F1 : FzS G_api_Ins.rep 4 g k15_0_w1 k15_0.fCode) (k15_0_F2 : FzS G_api_Guard.rep 3 g k15_0_w2 k15_0.fGuards) (sbk15 : Sub gbk15 g) (Hk15 : ∀ {qy0 : Int} {g2 h2 : AH}, k15M qy0 = some r → Sub gbk15 g2 → Sep c g2 h2 [.bx k15_0_b [(.string k15_0.fClass), (.string k15_0.fName), (vi k15_0.fArgs), (vi k15_0.fSlots), (vi k15_0.fFrame), k15_0_w1, k15_0_w2]] → k15 (vi qy0) h2) (H : core_plain_H c R r) : g_core_plain_P1 w0 E R (vi y16) k15 (.bool v35) h := by
  unfold g_core_plain_P1
  unfold g_core_plain_P1_M at M
  refine br_lf (fun hc => ?_) (fun hc => ?_)
  · have M := cond_T hc M
    cases M
    exact H _ _  S.drops
  · have M := cond_F hc M
    exact g_core_plain_J5_lf M S k15_0_F1 k15_0_F2 sbk15 Hk15 H
theorem g_core_plain_J4_lf {w0 : World} {c : Cx} {g h : AH} {E R : Value → W} {r : Bool} {N : Nat} {v13 : List G_api_Ins} {y16 v5 : Int} {k15_0 : G_api_Unit} {v13_v : Value} {v5_b k15_0_b : Nat} {k15_0_w1 k15_0_w2 : Value} {k15 : Value → W} {k15M : Int → Option Bool} {gbk15 : AH} (M : g_core_plain_J4_M N v13 y16 v5 k15_0 k15M = some r) (S : Sep c g h [.bx k15_0_b [(.string k15_0.fClass), (.string k15_0.fName), (vi k15_0.fArgs), (vi k15_0.fSlots), (vi k15_0.fFrame), k15_0_w1, k15_0_w2]]) (v13_F : FzS G_api_Ins.rep 4 g v13_v v13) (v5_r : g.rds v5_b 0 [(vi v5)]) (k15_0_F1 : FzS G_api_Ins.rep 4 g k15_0_w1 k15_0.fCode) (k15_0_F2 : FzS G_api_Guard.rep 3 g k15_0_w2 k15_0.fGuards) (sbk15 : Sub gbk15 g) (Hk15 : ∀ {qy0 : Int} {g2 h2 : AH}, k15M qy0 = some r → Sub gbk15 g2 → Sep c g2 h2 [.bx k15_0_b [(.string k15_0.fClass), (.string k15_0.fName), (vi k15_0.fArgs), (vi k15_0.fSlots), (vi k15_0.fFrame), k15_0_w1, k15_0_w2]] → k15 (vi qy0) h2) (H : core_plain_H c R r) : g_core_plain_J4 w0 E R v13_v (vi y16) (mkP v5_b 0) k15 h := by
  unfold g_core_plain_J4
  unfold g_core_plain_J4_M at M
  obtain ⟨c_10, hx_11, M⟩ := bind_some M
  refine FzS.idx v13_F hx_11 (fun b_12 o_13 vs E_15 r_14 rp => ?_)
  cases rp
  refine S.fldN r_14 rfl (by decide) ?_
  refine S.alloc (l := [(vi 0), (vi 0), (vi 0), (vi 0)]) (one_cons rfl (one_cons rfl (one_cons rfl (one_cons rfl rfl)))) (fun b_16 h S => ?_)
  refine S.bst [(vi c_10.fOp), (vi c_10.fA), (vi c_10.fB), (vi c_10.fC)] [(vi c_10.fOp), (vi c_10.fA), (vi c_10.fB), (vi c_10.fC)] rfl rfl (one_cons rfl (one_cons rfl (one_cons rfl (one_cons rfl rfl)))) (Nat.le_of_ble_eq_true rfl) rfl (fun h S => ?_)
  refine WP_fieldAddr.2 ?_
  refine S.bld1 0 rfl rfl ?_
  obtain ⟨c_17, hx_18, M⟩ := bind_some M
  refine core_formOf_lf c_10.fOp S.sub S.ok hx_18 (fun _ h  S1  => ?_)
  have S := S.call0 S1
  refine (WP_extract rfl).2 ?_
  refine (WP_extract rfl).2 ?_
  refine S.alloc (l := [(.string (⟨⟨[]⟩⟩ : ByteArray)), (vi 0), (vi 0), (vi 0), (vi 0), (vi 0), (vi 0), (.bool false), (.bool false)]) (one_cons rfl (one_cons rfl (one_cons rfl (one_cons rfl (one_cons rfl (one_cons rfl (one_cons rfl (one_cons rfl (one_cons rfl rfl))))))))) (fun b_19 h S => ?_)
  refine S.bst [(.string c_17.1.fname), (vi c_17.1.fhas.e0), (vi c_17.1.fhas.e1), (vi c_17.1.fhas.e2), (vi c_17.1.fwrites), (vi c_17.1.freads.e0), (vi c_17.1.freads.e1), (.bool c_17.1.fraises), (.bool c_17.1.fendsNow)] [(.string c_17.1.fname), (vi c_17.1.fhas.e0), (vi c_17.1.fhas.e1), (vi c_17.1.fhas.e2), (vi c_17.1.fwrites), (vi c_17.1.freads.e0), (vi c_17.1.freads.e1), (.bool c_17.1.fraises), (.bool c_17.1.fendsNow)] rfl rfl (one_cons rfl (one_cons rfl (one_cons rfl (one_cons rfl (one_cons rfl (one_cons rfl (one_cons rfl (one_cons rfl (one_cons rfl rfl))))))))) (Nat.le_of_ble_eq_true rfl) rfl (fun h S => ?_)
  refine WP_notB.2 ?_
  cases hc : (!c_17.2)
  · have M := cond_F hc M
    refine gd_hit rfl ?_
    refine S.bldN [(vi c_10.fOp), (vi c_10.fA), (vi c_10.fB), (vi c_10.fC)] 1 rfl rfl rfl (by decide) ?_
    refine gd_hit rfl ?_
    obtain ⟨c_20, hx_21, M⟩ := bind_some M
    refine core_places_lf hx_21 S.sub S.ok (fun g h w_22 S1 F_23 => ?_)
    have v13_F := v13_F.mono G_api_Ins.mono S1.sub0
    have v5_r := S1.sub0.rds v5_r
    have r_14 := S1.sub0.rds r_14
    have k15_0_F1 := k15_0_F1.mono G_api_Ins.mono S1.sub0
    have k15_0_F2 := k15_0_F2.mono G_api_Guard.mono S1.sub0
    have sbk15 := Sub.trans sbk15 S1.sub0
    have S := S.callE S1
    refine gd_hit rfl ?_
    refine (WP_mkFunc (by simp)).2 ?_
    refine gd_hit rfl ?_
    have Fn_24 : Gfn_func_int_bool w0 g (.func (.func id_core_plain_1) ⟨[]⟩ ⟨[(mkP v5_b 0)]⟩) (fun a0 => core_plain_1_M a0 v5) := ⟨rfl, fun a0 r E K g2 h2 s1 s2 s3  m1 k1 => core_plain_1_lf m1 s2 s3 (Sub.rds s1 v5_r) k1⟩
    obtain ⟨c_25, hx_26, M⟩ := bind_some M
    refine slices_ContainsFunc_int_int_lf hx_26 S.sub S.ok F_23 Fn_24 (fun _ h  S1  => ?_)
    have S := S.call0 S1
    refine WP_pick.2 ?_
    have S := S.f2
    have S := S.t1
    exact g_core_plain_P1_lf M S k15_0_F1 k15_0_F2 sbk15 Hk15 H
  · have M := cond_T hc M
    refine gd_mis (by decide) ?_
    refine gd_mis (by decide) ?_
    refine gd_mis (by decide) ?_
    refine gd_mis (by decide) ?_
    refine WP_pick.2 ?_
    have S := S.f2
    have S := S.t1
    exact g_core_plain_P1_lf M S k15_0_F1 k15_0_F2 sbk15 Hk15 H
theorem g_core_plain_J2_lf {w0 : World} {c : Cx} {g h : AH} {E R : Value → W} {r : Bool} {N : Nat} {v1 : G_api_Unit} {v5 : Int} {v1_b : Nat} {v1_w1 v1_w2 : Value} {v5_b : Nat}  (M : g_core_plain_J2_M N v1 v5 = some r) (S : Sep c g h [.bx v1_b [(.string v1.fClass), (.string v1.fName), (vi v1.fArgs), (vi v1.fSlots), (vi v1.fFrame), v1_w1, v1_w2]]) (v1_F1 : FzS G_api_Ins.rep 4 g v1_w1 v1.fCode) (v1_F2 : FzS G_api_Guard.rep 3 g v1_w2 v1.fGuards) (v5_r : g.rds v5_b 0 [(vi v5)])  (H : core_plain_H c R r) : g_core_plain_J2 w0 E R (mkP v1_b 0) (mkP v5_b 0) h := by
  unfold g_core_plain_J2
  unfold g_core_plain_J2_M at M
  refine WP_fieldAddr.2 ?_
  refine S.bld1 0 rfl rfl ?_
  refine (WP_mkFunc (by simp)).2 ?_
  have Fn_27 : Gfn_func_api_Guard_bool w0 g (.func (.func id_core_plain_2) ⟨[]⟩ ⟨[(mkP v5_b 0)]⟩) (fun a0 => core_plain_2_M a0 v5) := ⟨rfl, fun a0 r E K g2 h2 s1 s2 s3  m1 k1 => core_plain_2_lf m1 s2 s3 (Sub.rds s1 v5_r) k1⟩
  obtain ⟨c_28, hx_29, M⟩ := bind_some M
  refine slices_ContainsFunc_api_Guard_api_Guard_lf hx_29 S.sub S.ok v1_F2 Fn_27 (fun _ h  S1  => ?_)
  have S := S.call0 S1
  refine WP_notB.2 ?_
  cases M
  exact H _ _  S.drops
theorem g_core_plain_L3_lf {w0 : World} {c : Cx} {g h : AH} {E R : Value → W} {r : Bool} {N : Nat} {v14 : Int} {v13 : List G_api_Ins} {v5 : Int} {v1 : G_api_Unit} {y16 : Int} {v13_v : Value} {v5_b v1_b : Nat} {v1_w1 v1_w2 : Value} {k15 : Value → W} {k15M : Int → Option Bool} {gbk15 : AH} (M : g_core_plain_L3_M N v14 v13 v5 v1 y16 k15M = some r) (S : Sep c g h [.bx v1_b [(.string v1.fClass), (.string v1.fName), (vi v1.fArgs), (vi v1.fSlots), (vi v1.fFrame), v1_w1, v1_w2]]) (v13_F : FzS G_api_Ins.rep 4 g v13_v v13) (v5_r : g.rds v5_b 0 [(vi v5)]) (v1_F1 : FzS G_api_Ins.rep 4 g v1_w1 v1.fCode) (v1_F2 : FzS G_api_Guard.rep 3 g v1_w2 v1.fGuards) (sbk15 : Sub gbk15 g) (Hk15 : ∀ {qy0 : Int} {g2 h2 : AH}, k15M qy0 = some r → Sub gbk15 g2 → Sep c g2 h2 [.bx v1_b [(.string v1.fClass), (.string v1.fName), (vi v1.fArgs), (vi v1.fSlots), (vi v1.fFrame), v1_w1, v1_w2]] → k15 (vi qy0) h2) (H : core_plain_H c R r) : g_core_plain_L3 w0 E R (vi v14) v13_v (mkP v5_b 0) (mkP v1_b 0) k15 (vi y16) h := by
  unfold g_core_plain_L3
  unfold g_core_plain_L3_M at M
  refine WP_lss.2 ?_
  refine br_lf (fun hc => ?_) (fun hc => ?_)
  · have M := cond_T hc M
    exact g_core_plain_J4_lf M S v13_F v5_r v1_F1 v1_F2 sbk15 Hk15 H
  · have M := cond_F hc M
    exact g_core_plain_J2_lf M S v1_F1 v1_F2 v5_r H
theorem g_core_plain_L3_li {w0 : World} {c : Cx} {E R : Value → W} {r : Bool} {N : Nat} {v14 : Int} {v13 : List G_api_Ins} {v5 : Int} {v1 : G_api_Unit} {v13_v : Value} {v5_b v1_b : Nat} {v1_w1 v1_w2 : Value}   (H : core_plain_H c R r) : ∀ (n : Nat) {y16 : Int} {g h : AH}, g_core_plain_L3_I N v14 v13 v5 v1 n y16 = some r → Sep c g h [.bx v1_b [(.string v1.fClass), (.string v1.fName), (vi v1.fArgs), (vi v1.fSlots), (vi v1.fFrame), v1_w1, v1_w2]] → FzS G_api_Ins.rep 4 g v13_v v13 → g.rds v5_b 0 [(vi v5)] → FzS G_api_Ins.rep 4 g v1_w1 v1.fCode → FzS G_api_Guard.rep 3 g v1_w2 v1.fGuards → LPn (α := Value) (fun k a => g_core_plain_L3 w0 E R (vi v14) v13_v (mkP v5_b 0) (mkP v1_b 0) k a) n (vi y16) h := by
  intro n
  induction n with
  | zero =>
    intro y16  g h M S v13_F v5_r v1_F1 v1_F2
    unfold g_core_plain_L3_I at M; cases M
  | succ n ih =>
    intro y16  g h M S v13_F v5_r v1_F1 v1_F2
    exact g_core_plain_L3_lf M S v13_F v5_r v1_F1 v1_F2  (Sub.refl g) (fun M2 sub S2  => ih M2 S2 (FzS.mono v13_F G_api_Ins.mono sub) (Sub.rds sub v5_r) (FzS.mono v1_F1 G_api_Ins.mono sub) (FzS.mono v1_F2 G_api_Guard.mono sub) ) H
theorem g_core_plain_J1_lf {w0 : World} {c : Cx} {g h : AH} {E R : Value → W} {r : Bool} {N : Nat} {v1 : G_api_Unit} {v5 : Int} {v1_b : Nat} {v1_w1 v1_w2 : Value} {v5_b : Nat}  (M : g_core_plain_J1_M N v1 v5 = some r) (S : Sep c g h [.bx v1_b [(.string v1.fClass), (.string v1.fName), (vi v1.fArgs), (vi v1.fSlots), (vi v1.fFrame), v1_w1, v1_w2], .bx v5_b [(vi v5)]]) (v1_F1 : FzS G_api_Ins.rep 4 g v1_w1 v1.fCode) (v1_F2 : FzS G_api_Guard.rep 3 g v1_w2 v1.fGuards)  (H : core_plain_H c R r) : g_core_plain_J1 w0 E R (mkP v1_b 0) (mkP v5_b 0) h := by
  unfold g_core_plain_J1
  unfold g_core_plain_J1_M at M
  refine WP_fieldAddr.2 ?_
  refine S.bld1 0 rfl rfl ?_
  refine v1_F1.len ?_
  have S := S.f1
  obtain ⟨g, sg, S, r_9⟩ := S.fzbx
  have v1_F1 := v1_F1.mono G_api_Ins.mono sg
  have v1_F2 := v1_F2.mono G_api_Guard.mono sg
  exact ⟨N, g_core_plain_L3_li  H _ M S v1_F1 r_9 v1_F1 v1_F2 ⟩
theorem g_core_plain_P2_lf {w0 : World} {c : Cx} {g h : AH} {E R : Value → W} {r : Bool} {N : Nat} {v1 : G_api_Unit} {v5 : Int} {v53 : Bool} {v1_b : Nat} {v1_w1 v1_w2 : Value} {v5_b : Nat}  (M : g_core_plain_P2_M N v1 v5 v53 = some r) (S : Sep c g h [.bx v1_b [(.string v1.fClass), (.string v1.fName), (vi v1.fArgs), (vi v1.fSlots), (vi v1.fFrame), v1_w1, v1_w2], .bx v5_b [(vi v5)]]) (v1_F1 : FzS G_api_Ins.rep 4 g v1_w1 v1.fCode) (v1_F2 : FzS G_api_Guard.rep 3 g v1_w2 v1.fGuards)  (H : core_plain_H c R r) : g_core_plain_P2 w0 E R (mkP v1_b 0) (mkP v5_b 0) (.bool v53) h := by
  unfold g_core_plain_P2
  unfold g_core_plain_P2_M at M
  refine br_lf (fun hc => ?_) (fun hc => ?_)
  · have M := cond_T hc M
    cases M
    exact H _ _  S.drops
  · have M := cond_F hc M
    exact g_core_plain_J1_lf M S v1_F1 v1_F2 H
theorem g_core_plain_P3_lf {w0 : World} {c : Cx} {g h : AH} {E R : Value → W} {r : Bool} {N : Nat} {v1 : G_api_Unit} {v5 : Int} {v48 : Bool} {v1_b : Nat} {v1_w1 v1_w2 : Value} {v5_b : Nat}  (M : g_core_plain_P3_M N v1 v5 v48 = some r) (S : Sep c g h [.bx v1_b [(.string v1.fClass), (.string v1.fName), (vi v1.fArgs), (vi v1.fSlots), (vi v1.fFrame), v1_w1, v1_w2], .bx v5_b [(vi v5)]]) (v1_F1 : FzS G_api_Ins.rep 4 g v1_w1 v1.fCode) (v1_F2 : FzS G_api_Guard.rep 3 g v1_w2 v1.fGuards)  (H : core_plain_H c R r) : g_core_plain_P3 w0 E R (mkP v1_b 0) (mkP v5_b 0) (.bool v48) h := by
  unfold g_core_plain_P3
  unfold g_core_plain_P3_M at M
  cases hc : v48
  · have M := cond_F hc M
    refine gd_hit rfl ?_
    refine WP_fieldAddr.2 ?_
    refine gd_hit rfl ?_
    refine S.bld1 0 rfl rfl ?_
    refine gd_hit rfl ?_
    obtain ⟨c_7, hx_8, M⟩ := bind_some M
    refine core_within_lf hx_8 S.sub S.ok (fun _ h  S1  => ?_)
    have S := S.call0 S1
    refine gd_hit rfl ?_
    refine WP_notB.2 ?_
    refine WP_pick.2 ?_
    exact g_core_plain_P2_lf M S v1_F1 v1_F2 H
  · have M := cond_T hc M
    refine gd_mis (by decide) ?_
    refine gd_mis (by decide) ?_
    refine gd_mis (by decide) ?_
    refine gd_mis (by decide) ?_
    refine WP_pick.2 ?_
    exact g_core_plain_P2_lf M S v1_F1 v1_F2 H
theorem g_core_plain_P4_lf {w0 : World} {c : Cx} {g h : AH} {E R : Value → W} {r : Bool} {N : Nat} {v1 : G_api_Unit} {v5 : Int} {v43 : Bool} {v1_b : Nat} {v1_w1 v1_w2 : Value} {v5_b : Nat}  (M : g_core_plain_P4_M N v1 v5 v43 = some r) (S : Sep c g h [.bx v1_b [(.string v1.fClass), (.string v1.fName), (vi v1.fArgs), (vi v1.fSlots), (vi v1.fFrame), v1_w1, v1_w2], .bx v5_b [(vi v5)]]) (v1_F1 : FzS G_api_Ins.rep 4 g v1_w1 v1.fCode) (v1_F2 : FzS G_api_Guard.rep 3 g v1_w2 v1.fGuards)  (H : core_plain_H c R r) : g_core_plain_P4 w0 E R (mkP v1_b 0) (mkP v5_b 0) (.bool v43) h := by
  unfold g_core_plain_P4
  unfold g_core_plain_P4_M at M
  cases hc : v43
  · have M := cond_F hc M
    refine gd_hit rfl ?_
    refine WP_fieldAddr.2 ?_
    refine gd_hit rfl ?_
    refine S.bld1 0 rfl rfl ?_
    refine gd_hit rfl ?_
    obtain ⟨c_5, hx_6, M⟩ := bind_some M
    refine core_within_lf hx_6 S.sub S.ok (fun _ h  S1  => ?_)
    have S := S.call0 S1
    refine gd_hit rfl ?_
    refine WP_notB.2 ?_
    refine WP_pick.2 ?_
    exact g_core_plain_P3_lf M S v1_F1 v1_F2 H
  · have M := cond_T hc M
    refine gd_mis (by decide) ?_
    refine gd_mis (by decide) ?_
    refine gd_mis (by decide) ?_
    refine gd_mis (by decide) ?_
    refine WP_pick.2 ?_
    exact g_core_plain_P3_lf M S v1_F1 v1_F2 H
theorem core_plain_lf {w0 : World} {g h : AH} {Q : CR → AH → Prop} {r : Bool} {N : Nat} {x0 : G_api_Unit} {x0_w1 x0_w2 : Value} (M : core_plain_M N x0 = some r) (sg : Sub g h) (ok : h.Ok) (x0_F1 : FzS G_api_Ins.rep 4 g x0_w1 x0.fCode) (x0_F2 : FzS G_api_Guard.rep 3 g x0_w2 x0.fGuards) (H : core_plain_H ⟨g, h, []⟩ (fun v => Q (.ret v)) r) : WF PP w0 id_core_plain [(.agg ⟨[(.string x0.fClass), (.string x0.fName), (vi x0.fArgs), (vi x0.fSlots), (vi x0.fFrame), x0_w1, x0_w2]⟩)] h Q := by
  refine g_core_plain_wp _ ?_
  have S := Sep.start sg ok
  unfold g_core_plain_F
  unfold core_plain_M at M
  refine S.box [(.string x0.fClass), (.string x0.fName), (vi x0.fArgs), (vi x0.fSlots), (vi x0.fFrame), x0_w1, x0_w2] rfl (one_cons rfl (one_cons rfl (one_cons rfl (one_cons rfl (one_cons rfl (one_cons x0_F1.one (one_cons x0_F2.one rfl))))))) (fun b_1 h S => ?_)
  refine WP_fieldAddr.2 ?_
  refine S.bld1 0 rfl rfl ?_
  refine x0_F1.len ?_
  refine S.alloc (l := [(vi 0)]) (one_cons rfl rfl) (fun b_2 h S => ?_)
  refine S.bst [(vi (x0.fCode.length : Int))] [(vi (x0.fCode.length : Int))] rfl rfl (one_cons rfl rfl) (Nat.le_of_ble_eq_true rfl) rfl (fun h S => ?_)
  refine S.bld1 0 rfl rfl ?_
  obtain ⟨c_3, hx_4, M⟩ := bind_some M
  refine core_within_lf hx_4 S.sub S.ok (fun _ h  S1  => ?_)
  have S := S.call0 S1
  refine WP_notB.2 ?_
  cases hc : (!c_3)
  · have M := cond_F hc M
    refine gd_hit rfl ?_
    refine WP_fieldAddr.2 ?_
    refine gd_hit rfl ?_
    refine S.bld1 1 rfl rfl ?_
    refine gd_hit rfl ?_
    refine x0_F2.len ?_
    refine gd_hit rfl ?_
    refine WP_gtr.2 ?_
    refine WP_pick.2 ?_
    have S := S.f1
    exact g_core_plain_P4_lf M S x0_F1 x0_F2 H
  · have M := cond_T hc M
    refine gd_mis (by decide) ?_
    refine gd_mis (by decide) ?_
    refine gd_mis (by decide) ?_
    refine gd_mis (by decide) ?_
    refine WP_pick.2 ?_
    have S := S.f1
    exact g_core_plain_P4_lf M S x0_F1 x0_F2 H
def cosignerref08_in_M (x0 : Int) (x1 : Int) (x2 : Int) : Option Bool :=
 bif (decide (x1 ≤ x0)) then (
 some (decide (x0 ≤ x2))) else (
 some false)
abbrev cosignerref08_in_H (c : Cx) (R : Value → W) (r : Bool) : Prop := ∀ (g' h' : AH), Sep c g' h' [] → R (.bool r) h'
theorem cosignerref08_in_lf {w0 : World} {g h : AH} {Q : CR → AH → Prop} {r : Bool} {x0 x1 x2 : Int} (M : cosignerref08_in_M x0 x1 x2 = some r) (sg : Sub g h) (ok : h.Ok)  (H : cosignerref08_in_H ⟨g, h, []⟩ (fun v => Q (.ret v)) r) : WF PP w0 id_cosignerref08_in [(vi x0), (vi x1), (vi x2)] h Q := by
  refine g_cosignerref08_in_wp _ _ _ ?_
  have S := Sep.start sg ok
  unfold g_cosignerref08_in_F
  unfold cosignerref08_in_M at M
  refine WP_leq.2 ?_
  cases hc : (decide (x1 ≤ x0))
  · have M := cond_F hc M
    refine gd_mis (by decide) ?_
    refine gd_mis (by decide) ?_
    refine gd_mis (by decide) ?_
    refine WP_pick.2 ?_
    cases M
    exact H _ _  S.drops
  · have M := cond_T hc M
    refine gd_hit rfl ?_
    refine gd_hit rfl ?_
    refine gd_hit rfl ?_
    refine WP_leq.2 ?_
    refine WP_pick.2 ?_
    cases M
    exact H _ _  S.drops
def g_cosignerref08_RowOf_J1_M (v1 : G_cosignerref08_Row)  : Option (G_cosignerref08_Row × Bool) :=
 some ((G_cosignerref08_Row.mk (GA3_Int.mk 0 0 0) 0 (GA2_Int.mk 0 0) false), false)
def g_cosignerref08_RowOf_J5_M (v1 : G_cosignerref08_Row) (x0 : Int) (y32 : Bool)  : Option (G_cosignerref08_Row × Bool) :=
 bif y32 then (
 some ((G_cosignerref08_Row.mk (GA3_Int.mk 1 1 1) 1 (GA2_Int.mk 2 3) false), true)) else (
 bif (decide (x0 = 17)) then (
 some ((G_cosignerref08_Row.mk (GA3_Int.mk 1 2 5) 1 (GA2_Int.mk 2 0) true), true)) else (
 bif (decide (x0 = 18)) then (
 some ((G_cosignerref08_Row.mk (GA3_Int.mk 5 1 0) 0 (GA2_Int.mk 2 0) false), true)) else (
 bif (decide (x0 = 19)) then (
 some ((G_cosignerref08_Row.mk (GA3_Int.mk 6 1 0) 0 (GA2_Int.mk 2 0) false), true)) else (
 bif (decide (x0 = 20)) then (
 some ((G_cosignerref08_Row.mk (GA3_Int.mk 7 2 8) 1 (GA2_Int.mk 2 0) true), true)) else (
 bif (decide (x0 = 21)) then (
 some ((G_cosignerref08_Row.mk (GA3_Int.mk 1 9 4) 1 (GA2_Int.mk 0 0) true), true)) else (
 bif (decide (x0 = 22)) then (
 some ((G_cosignerref08_Row.mk (GA3_Int.mk 1 10 0) 0 (GA2_Int.mk 1 0) true), true)) else (
 bif (decide (x0 = 23)) then (
 some ((G_cosignerref08_Row.mk (GA3_Int.mk 2 0 0) 0 (GA2_Int.mk 1 0) true), true)) else (
 bif (decide (x0 = 24)) then (
 some ((G_cosignerref08_Row.mk (GA3_Int.mk 11 0 0) 0 (GA2_Int.mk 0 0) false), true)) else (
 bif (decide (x0 = 25)) then (
 some ((G_cosignerref08_Row.mk (GA3_Int.mk 1 11 0) 0 (GA2_Int.mk 1 0) false), true)) else (
 bif (decide (x0 = 26)) then (
 some ((G_cosignerref08_Row.mk (GA3_Int.mk 12 0 0) 0 (GA2_Int.mk 0 0) true), true)) else (
 bif (decide (x0 = 27)) then (
 some ((G_cosignerref08_Row.mk (GA3_Int.mk 0 0 0) 0 (GA2_Int.mk 0 0) true), true)) else (
 bif (decide (x0 = 28)) then (
 some ((G_cosignerref08_Row.mk (GA3_Int.mk 2 0 0) 0 (GA2_Int.mk 1 0) false), true)) else (
 bif (decide (x0 = 29)) then (
 some ((G_cosignerref08_Row.mk (GA3_Int.mk 1 0 0) 0 (GA2_Int.mk 1 0) false), true)) else (
 bif (decide (x0 = 30)) then (
 some ((G_cosignerref08_Row.mk (GA3_Int.mk 1 0 0) 0 (GA2_Int.mk 1 0) true), true)) else (
 bif (decide (x0 = 31)) then (
 some ((G_cosignerref08_Row.mk (GA3_Int.mk 0 0 0) 0 (GA2_Int.mk 0 0) false), true)) else (
 bif (decide (x0 = 32)) then (
 some ((G_cosignerref08_Row.mk (GA3_Int.mk 1 11 0) 0 (GA2_Int.mk 1 0) true), true)) else (
 bif (decide (x0 = 33)) then (
 some ((G_cosignerref08_Row.mk (GA3_Int.mk 1 13 0) 1 (GA2_Int.mk 0 0) false), true)) else (
 bif (decide (x0 = 34)) then (
 some ((G_cosignerref08_Row.mk (GA3_Int.mk 13 1 0) 0 (GA2_Int.mk 2 0) false), true)) else (
 g_cosignerref08_RowOf_J1_M v1)))))))))))))))))))
def g_cosignerref08_RowOf_J4_M (v1 : G_cosignerref08_Row) (x0 : Int) (y26 : Bool)  : Option (G_cosignerref08_Row × Bool) :=
 bif y26 then (
 some ((G_cosignerref08_Row.mk (GA3_Int.mk 1 1 1) 1 (GA2_Int.mk 2 3) true), true)) else (
 bif (decide (x0 = 12)) then (
 g_cosignerref08_RowOf_J5_M v1 x0 (decide (x0 = 12))) else (
 bif (decide (x0 = 13)) then (
 g_cosignerref08_RowOf_J5_M v1 x0 (decide (x0 = 13))) else (
 g_cosignerref08_RowOf_J5_M v1 x0 (decide (x0 = 14)))))
def g_cosignerref08_RowOf_J3_M (v1 : G_cosignerref08_Row) (x0 : Int) (y20 : Bool)  : Option (G_cosignerref08_Row × Bool) :=
 bif y20 then (
 some ((G_cosignerref08_Row.mk (GA3_Int.mk 1 1 0) 1 (GA2_Int.mk 2 0) false), true)) else (
 bif (decide (x0 = 6)) then (
 g_cosignerref08_RowOf_J4_M v1 x0 (decide (x0 = 6))) else (
 bif (decide (x0 = 7)) then (
 g_cosignerref08_RowOf_J4_M v1 x0 (decide (x0 = 7))) else (
 bif (decide (x0 = 8)) then (
 g_cosignerref08_RowOf_J4_M v1 x0 (decide (x0 = 8))) else (
 bif (decide (x0 = 9)) then (
 g_cosignerref08_RowOf_J4_M v1 x0 (decide (x0 = 9))) else (
 g_cosignerref08_RowOf_J4_M v1 x0 (decide (x0 = 10)))))))
def g_cosignerref08_RowOf_J2_M (v1 : G_cosignerref08_Row) (x0 : Int) (y15 : Bool)  : Option (G_cosignerref08_Row × Bool) :=
 bif y15 then (
 some ((G_cosignerref08_Row.mk (GA3_Int.mk 1 0 0) 1 (GA2_Int.mk 0 0) false), true)) else (
 bif (decide (x0 = 4)) then (
 g_cosignerref08_RowOf_J3_M v1 x0 (decide (x0 = 4))) else (
 bif (decide (x0 = 11)) then (
 g_cosignerref08_RowOf_J3_M v1 x0 (decide (x0 = 11))) else (
 bif (decide (x0 = 15)) then (
 g_cosignerref08_RowOf_J3_M v1 x0 (decide (x0 = 15))) else (
 g_cosignerref08_RowOf_J3_M v1 x0 (decide (x0 = 16))))))
def cosignerref08_RowOf_M (x0 : Int) : Option (G_cosignerref08_Row × Bool) :=
 bif (decide (x0 = 1)) then (
 some ((G_cosignerref08_Row.mk (GA3_Int.mk 1 3 0) 1 (GA2_Int.mk 0 0) false), true)) else (
 bif (decide (x0 = 2)) then (
 some ((G_cosignerref08_Row.mk (GA3_Int.mk 1 4 0) 1 (GA2_Int.mk 0 0) false), true)) else (
 bif (decide (x0 = 3)) then (
 g_cosignerref08_RowOf_J2_M (G_cosignerref08_Row.mk (GA3_Int.mk 0 0 0) 0 (GA2_Int.mk 0 0) false) x0 (decide (x0 = 3))) else (
 g_cosignerref08_RowOf_J2_M (G_cosignerref08_Row.mk (GA3_Int.mk 0 0 0) 0 (GA2_Int.mk 0 0) false) x0 (decide (x0 = 5)))))
abbrev cosignerref08_RowOf_H (c : Cx) (R : Value → W) (r : G_cosignerref08_Row × Bool) : Prop := ∀ (g' h' : AH), Sep c g' h' [] → R (.tuple ⟨[(.agg ⟨[(vi r.1.fHas.e0), (vi r.1.fHas.e1), (vi r.1.fHas.e2), (vi r.1.fWrites), (vi r.1.fReads.e0), (vi r.1.fReads.e1), (.bool r.1.fRaises)]⟩), (.bool r.2)]⟩) h'
theorem g_cosignerref08_RowOf_J1_lf {w0 : World} {c : Cx} {g h : AH} {E R : Value → W} {r : G_cosignerref08_Row × Bool} {v1 : G_cosignerref08_Row} {v1_b : Nat}  (M : g_cosignerref08_RowOf_J1_M v1 = some r) (S : Sep c g h [.bx v1_b [(vi v1.fHas.e0), (vi v1.fHas.e1), (vi v1.fHas.e2), (vi v1.fWrites), (vi v1.fReads.e0), (vi v1.fReads.e1), (.bool v1.fRaises)]])   (H : cosignerref08_RowOf_H c R r) : g_cosignerref08_RowOf_J1 w0 E R (mkP v1_b 0) h := by
  unfold g_cosignerref08_RowOf_J1
  unfold g_cosignerref08_RowOf_J1_M at M
  refine (WX_build (l := [(vi 0), (vi 0), (vi 0), (vi 0), (vi 0), (vi 0), (.bool false)]) rfl).2 ?_
  refine S.bst [(vi 0), (vi 0), (vi 0), (vi 0), (vi 0), (vi 0), (.bool false)] [(vi 0), (vi 0), (vi 0), (vi 0), (vi 0), (vi 0), (.bool false)] rfl rfl (one_cons rfl (one_cons rfl (one_cons rfl (one_cons rfl (one_cons rfl (one_cons rfl (one_cons rfl rfl))))))) (Nat.le_of_ble_eq_true rfl) rfl (fun h S => ?_)
  refine S.bldN [(vi 0), (vi 0), (vi 0), (vi 0), (vi 0), (vi 0), (.bool false)] 0 rfl rfl rfl (by decide) ?_
  cases M
  exact H _ _  S.drops
theorem g_cosignerref08_RowOf_J5_lf {w0 : World} {c : Cx} {g h : AH} {E R : Value → W} {r : G_cosignerref08_Row × Bool} {v1 : G_cosignerref08_Row} {x0 : Int} {y32 : Bool} {v1_b : Nat}  (M : g_cosignerref08_RowOf_J5_M v1 x0 y32 = some r) (S : Sep c g h [.bx v1_b [(vi v1.fHas.e0), (vi v1.fHas.e1), (vi v1.fHas.e2), (vi v1.fWrites), (vi v1.fReads.e0), (vi v1.fReads.e1), (.bool v1.fRaises)]])   (H : cosignerref08_RowOf_H c R r) : g_cosignerref08_RowOf_J5 w0 E R (mkP v1_b 0) (vi x0) (.bool y32) h := by
  unfold g_cosignerref08_RowOf_J5
  unfold g_cosignerref08_RowOf_J5_M at M
  refine br_lf (fun hc => ?_) (fun hc => ?_)
  · have M := cond_T hc M
    refine WPb [(vi 1), (vi 1), (vi 1)] (by simp only [sizL, cellsOf_agg, cellsOf_int, cellsOf_bool, cellsOf_str,  List.length_cons, List.length_nil, Nat.reduceAdd, Nat.zero_add, decide_true, Bool.and_self]) (by simp only [List.flatMap_cons, List.flatMap_nil, cellsOf_agg, cellsOf_int, cellsOf_bool, cellsOf_str,  List.cons_append, List.nil_append, List.append_nil]) ?_
    refine WPb [(vi 2), (vi 3)] (by simp only [sizL, cellsOf_agg, cellsOf_int, cellsOf_bool, cellsOf_str,  List.length_cons, List.length_nil, Nat.reduceAdd, Nat.zero_add, decide_true, Bool.and_self]) (by simp only [List.flatMap_cons, List.flatMap_nil, cellsOf_agg, cellsOf_int, cellsOf_bool, cellsOf_str,  List.cons_append, List.nil_append, List.append_nil]) ?_
    refine (WX_build (l := [(vi 1), (vi 1), (vi 1), (vi 1), (vi 2), (vi 3), (.bool false)]) (fillL_step (m := [(vi 1), (vi 1), (vi 1)]) (l2 := [(vi 1), (vi 1), (vi 1), (vi 0), (vi 0), (vi 0), (.bool false)]) rfl rfl (Nat.le_of_ble_eq_true rfl) rfl (fillL_step (m := [(vi 1)]) (l2 := [(vi 1), (vi 1), (vi 1), (vi 1), (vi 0), (vi 0), (.bool false)]) rfl rfl (Nat.le_of_ble_eq_true rfl) rfl (fillL_step (m := [(vi 2), (vi 3)]) (l2 := [(vi 1), (vi 1), (vi 1), (vi 1), (vi 2), (vi 3), (.bool false)]) rfl rfl (Nat.le_of_ble_eq_true rfl) rfl rfl)))).2 ?_
    refine S.bst [(vi 1), (vi 1), (vi 1), (vi 1), (vi 2), (vi 3), (.bool false)] [(vi 1), (vi 1), (vi 1), (vi 1), (vi 2), (vi 3), (.bool false)] rfl rfl (one_cons rfl (one_cons rfl (one_cons rfl (one_cons rfl (one_cons rfl (one_cons rfl (one_cons rfl rfl))))))) (Nat.le_of_ble_eq_true rfl) rfl (fun h S => ?_)
    refine S.bldN [(vi 1), (vi 1), (vi 1), (vi 1), (vi 2), (vi 3), (.bool false)] 0 rfl rfl rfl (by decide) ?_
    cases M
    exact H _ _  S.drops
  · have M := cond_F hc M
    refine WP_eql.2 ?_
    refine br_lf (fun hc => ?_) (fun hc => ?_)
    · have M := cond_T hc M
      refine WPb [(vi 1), (vi 2), (vi 5)] (by simp only [sizL, cellsOf_agg, cellsOf_int, cellsOf_bool, cellsOf_str,  List.length_cons, List.length_nil, Nat.reduceAdd, Nat.zero_add, decide_true, Bool.and_self]) (by simp only [List.flatMap_cons, List.flatMap_nil, cellsOf_agg, cellsOf_int, cellsOf_bool, cellsOf_str,  List.cons_append, List.nil_append, List.append_nil]) ?_
      refine WPb [(vi 2), (vi 0)] (by simp only [sizL, cellsOf_agg, cellsOf_int, cellsOf_bool, cellsOf_str,  List.length_cons, List.length_nil, Nat.reduceAdd, Nat.zero_add, decide_true, Bool.and_self]) (by simp only [List.flatMap_cons, List.flatMap_nil, cellsOf_agg, cellsOf_int, cellsOf_bool, cellsOf_str,  List.cons_append, List.nil_append, List.append_nil]) ?_
      refine WPb [(vi 1), (vi 2), (vi 5), (vi 1), (vi 2), (vi 0), (.bool true)] (by simp only [sizL, cellsOf_agg, cellsOf_int, cellsOf_bool, cellsOf_str,  List.length_cons, List.length_nil, Nat.reduceAdd, Nat.zero_add, decide_true, Bool.and_self]) (by simp only [List.flatMap_cons, List.flatMap_nil, cellsOf_agg, cellsOf_int, cellsOf_bool, cellsOf_str,  List.cons_append, List.nil_append, List.append_nil]) ?_
      refine S.bst [(vi 1), (vi 2), (vi 5), (vi 1), (vi 2), (vi 0), (.bool true)] [(vi 1), (vi 2), (vi 5), (vi 1), (vi 2), (vi 0), (.bool true)] rfl rfl (one_cons rfl (one_cons rfl (one_cons rfl (one_cons rfl (one_cons rfl (one_cons rfl (one_cons rfl rfl))))))) (Nat.le_of_ble_eq_true rfl) rfl (fun h S => ?_)
      refine S.bldN [(vi 1), (vi 2), (vi 5), (vi 1), (vi 2), (vi 0), (.bool true)] 0 rfl rfl rfl (by decide) ?_
      cases M
      exact H _ _  S.drops
    · have M := cond_F hc M
      refine WP_eql.2 ?_
      refine br_lf (fun hc => ?_) (fun hc => ?_)
      · have M := cond_T hc M
        refine WPb [(vi 5), (vi 1), (vi 0)] (by simp only [sizL, cellsOf_agg, cellsOf_int, cellsOf_bool, cellsOf_str,  List.length_cons, List.length_nil, Nat.reduceAdd, Nat.zero_add, decide_true, Bool.and_self]) (by simp only [List.flatMap_cons, List.flatMap_nil, cellsOf_agg, cellsOf_int, cellsOf_bool, cellsOf_str,  List.cons_append, List.nil_append, List.append_nil]) ?_
        refine WPb [(vi 2), (vi 0)] (by simp only [sizL, cellsOf_agg, cellsOf_int, cellsOf_bool, cellsOf_str,  List.length_cons, List.length_nil, Nat.reduceAdd, Nat.zero_add, decide_true, Bool.and_self]) (by simp only [List.flatMap_cons, List.flatMap_nil, cellsOf_agg, cellsOf_int, cellsOf_bool, cellsOf_str,  List.cons_append, List.nil_append, List.append_nil]) ?_
        refine (WX_build (l := [(vi 5), (vi 1), (vi 0), (vi 0), (vi 2), (vi 0), (.bool false)]) (fillL_step (m := [(vi 5), (vi 1), (vi 0)]) (l2 := [(vi 5), (vi 1), (vi 0), (vi 0), (vi 0), (vi 0), (.bool false)]) rfl rfl (Nat.le_of_ble_eq_true rfl) rfl (fillL_step (m := [(vi 2), (vi 0)]) (l2 := [(vi 5), (vi 1), (vi 0), (vi 0), (vi 2), (vi 0), (.bool false)]) rfl rfl (Nat.le_of_ble_eq_true rfl) rfl rfl))).2 ?_
        refine S.bst [(vi 5), (vi 1), (vi 0), (vi 0), (vi 2), (vi 0), (.bool false)] [(vi 5), (vi 1), (vi 0), (vi 0), (vi 2), (vi 0), (.bool false)] rfl rfl (one_cons rfl (one_cons rfl (one_cons rfl (one_cons rfl (one_cons rfl (one_cons rfl (one_cons rfl rfl))))))) (Nat.le_of_ble_eq_true rfl) rfl (fun h S => ?_)
        refine S.bldN [(vi 5), (vi 1), (vi 0), (vi 0), (vi 2), (vi 0), (.bool false)] 0 rfl rfl rfl (by decide) ?_
        cases M
        exact H _ _  S.drops
      · have M := cond_F hc M
        refine WP_eql.2 ?_
        refine br_lf (fun hc => ?_) (fun hc => ?_)
        · have M := cond_T hc M
          refine WPb [(vi 6), (vi 1), (vi 0)] (by simp only [sizL, cellsOf_agg, cellsOf_int, cellsOf_bool, cellsOf_str,  List.length_cons, List.length_nil, Nat.reduceAdd, Nat.zero_add, decide_true, Bool.and_self]) (by simp only [List.flatMap_cons, List.flatMap_nil, cellsOf_agg, cellsOf_int, cellsOf_bool, cellsOf_str,  List.cons_append, List.nil_append, List.append_nil]) ?_
          refine WPb [(vi 2), (vi 0)] (by simp only [sizL, cellsOf_agg, cellsOf_int, cellsOf_bool, cellsOf_str,  List.length_cons, List.length_nil, Nat.reduceAdd, Nat.zero_add, decide_true, Bool.and_self]) (by simp only [List.flatMap_cons, List.flatMap_nil, cellsOf_agg, cellsOf_int, cellsOf_bool, cellsOf_str,  List.cons_append, List.nil_append, List.append_nil]) ?_
          refine (WX_build (l := [(vi 6), (vi 1), (vi 0), (vi 0), (vi 2), (vi 0), (.bool false)]) (fillL_step (m := [(vi 6), (vi 1), (vi 0)]) (l2 := [(vi 6), (vi 1), (vi 0), (vi 0), (vi 0), (vi 0), (.bool false)]) rfl rfl (Nat.le_of_ble_eq_true rfl) rfl (fillL_step (m := [(vi 2), (vi 0)]) (l2 := [(vi 6), (vi 1), (vi 0), (vi 0), (vi 2), (vi 0), (.bool false)]) rfl rfl (Nat.le_of_ble_eq_true rfl) rfl rfl))).2 ?_
          refine S.bst [(vi 6), (vi 1), (vi 0), (vi 0), (vi 2), (vi 0), (.bool false)] [(vi 6), (vi 1), (vi 0), (vi 0), (vi 2), (vi 0), (.bool false)] rfl rfl (one_cons rfl (one_cons rfl (one_cons rfl (one_cons rfl (one_cons rfl (one_cons rfl (one_cons rfl rfl))))))) (Nat.le_of_ble_eq_true rfl) rfl (fun h S => ?_)
          refine S.bldN [(vi 6), (vi 1), (vi 0), (vi 0), (vi 2), (vi 0), (.bool false)] 0 rfl rfl rfl (by decide) ?_
          cases M
          exact H _ _  S.drops
        · have M := cond_F hc M
          refine WP_eql.2 ?_
          refine br_lf (fun hc => ?_) (fun hc => ?_)
          · have M := cond_T hc M
            refine WPb [(vi 7), (vi 2), (vi 8)] (by simp only [sizL, cellsOf_agg, cellsOf_int, cellsOf_bool, cellsOf_str,  List.length_cons, List.length_nil, Nat.reduceAdd, Nat.zero_add, decide_true, Bool.and_self]) (by simp only [List.flatMap_cons, List.flatMap_nil, cellsOf_agg, cellsOf_int, cellsOf_bool, cellsOf_str,  List.cons_append, List.nil_append, List.append_nil]) ?_
            refine WPb [(vi 2), (vi 0)] (by simp only [sizL, cellsOf_agg, cellsOf_int, cellsOf_bool, cellsOf_str,  List.length_cons, List.length_nil, Nat.reduceAdd, Nat.zero_add, decide_true, Bool.and_self]) (by simp only [List.flatMap_cons, List.flatMap_nil, cellsOf_agg, cellsOf_int, cellsOf_bool, cellsOf_str,  List.cons_append, List.nil_append, List.append_nil]) ?_
            refine WPb [(vi 7), (vi 2), (vi 8), (vi 1), (vi 2), (vi 0), (.bool true)] (by simp only [sizL, cellsOf_agg, cellsOf_int, cellsOf_bool, cellsOf_str,  List.length_cons, List.length_nil, Nat.reduceAdd, Nat.zero_add, decide_true, Bool.and_self]) (by simp only [List.flatMap_cons, List.flatMap_nil, cellsOf_agg, cellsOf_int, cellsOf_bool, cellsOf_str,  List.cons_append, List.nil_append, List.append_nil]) ?_
            refine S.bst [(vi 7), (vi 2), (vi 8), (vi 1), (vi 2), (vi 0), (.bool true)] [(vi 7), (vi 2), (vi 8), (vi 1), (vi 2), (vi 0), (.bool true)] rfl rfl (one_cons rfl (one_cons rfl (one_cons rfl (one_cons rfl (one_cons rfl (one_cons rfl (one_cons rfl rfl))))))) (Nat.le_of_ble_eq_true rfl) rfl (fun h S => ?_)
            refine S.bldN [(vi 7), (vi 2), (vi 8), (vi 1), (vi 2), (vi 0), (.bool true)] 0 rfl rfl rfl (by decide) ?_
            cases M
            exact H _ _  S.drops
          · have M := cond_F hc M
            refine WP_eql.2 ?_
            refine br_lf (fun hc => ?_) (fun hc => ?_)
            · have M := cond_T hc M
              refine WPb [(vi 1), (vi 9), (vi 4)] (by simp only [sizL, cellsOf_agg, cellsOf_int, cellsOf_bool, cellsOf_str,  List.length_cons, List.length_nil, Nat.reduceAdd, Nat.zero_add, decide_true, Bool.and_self]) (by simp only [List.flatMap_cons, List.flatMap_nil, cellsOf_agg, cellsOf_int, cellsOf_bool, cellsOf_str,  List.cons_append, List.nil_append, List.append_nil]) ?_
              refine (WX_build (l := [(vi 1), (vi 9), (vi 4), (vi 1), (vi 0), (vi 0), (.bool true)]) (fillL_step (m := [(vi 1), (vi 9), (vi 4)]) (l2 := [(vi 1), (vi 9), (vi 4), (vi 0), (vi 0), (vi 0), (.bool false)]) rfl rfl (Nat.le_of_ble_eq_true rfl) rfl (fillL_step (m := [(vi 1)]) (l2 := [(vi 1), (vi 9), (vi 4), (vi 1), (vi 0), (vi 0), (.bool false)]) rfl rfl (Nat.le_of_ble_eq_true rfl) rfl (fillL_step (m := [(.bool true)]) (l2 := [(vi 1), (vi 9), (vi 4), (vi 1), (vi 0), (vi 0), (.bool true)]) rfl rfl (Nat.le_of_ble_eq_true rfl) rfl rfl)))).2 ?_
              refine S.bst [(vi 1), (vi 9), (vi 4), (vi 1), (vi 0), (vi 0), (.bool true)] [(vi 1), (vi 9), (vi 4), (vi 1), (vi 0), (vi 0), (.bool true)] rfl rfl (one_cons rfl (one_cons rfl (one_cons rfl (one_cons rfl (one_cons rfl (one_cons rfl (one_cons rfl rfl))))))) (Nat.le_of_ble_eq_true rfl) rfl (fun h S => ?_)
              refine S.bldN [(vi 1), (vi 9), (vi 4), (vi 1), (vi 0), (vi 0), (.bool true)] 0 rfl rfl rfl (by decide) ?_
              cases M
              exact H _ _  S.drops
            · have M := cond_F hc M
              refine WP_eql.2 ?_
              refine br_lf (fun hc => ?_) (fun hc => ?_)
              · have M := cond_T hc M
                refine WPb [(vi 1), (vi 10), (vi 0)] (by simp only [sizL, cellsOf_agg, cellsOf_int, cellsOf_bool, cellsOf_str,  List.length_cons, List.length_nil, Nat.reduceAdd, Nat.zero_add, decide_true, Bool.and_self]) (by simp only [List.flatMap_cons, List.flatMap_nil, cellsOf_agg, cellsOf_int, cellsOf_bool, cellsOf_str,  List.cons_append, List.nil_append, List.append_nil]) ?_
                refine WPb [(vi 1), (vi 0)] (by simp only [sizL, cellsOf_agg, cellsOf_int, cellsOf_bool, cellsOf_str,  List.length_cons, List.length_nil, Nat.reduceAdd, Nat.zero_add, decide_true, Bool.and_self]) (by simp only [List.flatMap_cons, List.flatMap_nil, cellsOf_agg, cellsOf_int, cellsOf_bool, cellsOf_str,  List.cons_append, List.nil_append, List.append_nil]) ?_
                refine (WX_build (l := [(vi 1), (vi 10), (vi 0), (vi 0), (vi 1), (vi 0), (.bool true)]) (fillL_step (m := [(vi 1), (vi 10), (vi 0)]) (l2 := [(vi 1), (vi 10), (vi 0), (vi 0), (vi 0), (vi 0), (.bool false)]) rfl rfl (Nat.le_of_ble_eq_true rfl) rfl (fillL_step (m := [(vi 1), (vi 0)]) (l2 := [(vi 1), (vi 10), (vi 0), (vi 0), (vi 1), (vi 0), (.bool false)]) rfl rfl (Nat.le_of_ble_eq_true rfl) rfl (fillL_step (m := [(.bool true)]) (l2 := [(vi 1), (vi 10), (vi 0), (vi 0), (vi 1), (vi 0), (.bool true)]) rfl rfl (Nat.le_of_ble_eq_true rfl) rfl rfl)))).2 ?_
                refine S.bst [(vi 1), (vi 10), (vi 0), (vi 0), (vi 1), (vi 0), (.bool true)] [(vi 1), (vi 10), (vi 0), (vi 0), (vi 1), (vi 0), (.bool true)] rfl rfl (one_cons rfl (one_cons rfl (one_cons rfl (one_cons rfl (one_cons rfl (one_cons rfl (one_cons rfl rfl))))))) (Nat.le_of_ble_eq_true rfl) rfl (fun h S => ?_)
                refine S.bldN [(vi 1), (vi 10), (vi 0), (vi 0), (vi 1), (vi 0), (.bool true)] 0 rfl rfl rfl (by decide) ?_
                cases M
                exact H _ _  S.drops
              · have M := cond_F hc M
                refine WP_eql.2 ?_
                refine br_lf (fun hc => ?_) (fun hc => ?_)
                · have M := cond_T hc M
                  refine WPb [(vi 2), (vi 0), (vi 0)] (by simp only [sizL, cellsOf_agg, cellsOf_int, cellsOf_bool, cellsOf_str,  List.length_cons, List.length_nil, Nat.reduceAdd, Nat.zero_add, decide_true, Bool.and_self]) (by simp only [List.flatMap_cons, List.flatMap_nil, cellsOf_agg, cellsOf_int, cellsOf_bool, cellsOf_str,  List.cons_append, List.nil_append, List.append_nil]) ?_
                  refine WPb [(vi 1), (vi 0)] (by simp only [sizL, cellsOf_agg, cellsOf_int, cellsOf_bool, cellsOf_str,  List.length_cons, List.length_nil, Nat.reduceAdd, Nat.zero_add, decide_true, Bool.and_self]) (by simp only [List.flatMap_cons, List.flatMap_nil, cellsOf_agg, cellsOf_int, cellsOf_bool, cellsOf_str,  List.cons_append, List.nil_append, List.append_nil]) ?_
                  refine (WX_build (l := [(vi 2), (vi 0), (vi 0), (vi 0), (vi 1), (vi 0), (.bool true)]) (fillL_step (m := [(vi 2), (vi 0), (vi 0)]) (l2 := [(vi 2), (vi 0), (vi 0), (vi 0), (vi 0), (vi 0), (.bool false)]) rfl rfl (Nat.le_of_ble_eq_true rfl) rfl (fillL_step (m := [(vi 1), (vi 0)]) (l2 := [(vi 2), (vi 0), (vi 0), (vi 0), (vi 1), (vi 0), (.bool false)]) rfl rfl (Nat.le_of_ble_eq_true rfl) rfl (fillL_step (m := [(.bool true)]) (l2 := [(vi 2), (vi 0), (vi 0), (vi 0), (vi 1), (vi 0), (.bool true)]) rfl rfl (Nat.le_of_ble_eq_true rfl) rfl rfl)))).2 ?_
                  refine S.bst [(vi 2), (vi 0), (vi 0), (vi 0), (vi 1), (vi 0), (.bool true)] [(vi 2), (vi 0), (vi 0), (vi 0), (vi 1), (vi 0), (.bool true)] rfl rfl (one_cons rfl (one_cons rfl (one_cons rfl (one_cons rfl (one_cons rfl (one_cons rfl (one_cons rfl rfl))))))) (Nat.le_of_ble_eq_true rfl) rfl (fun h S => ?_)
                  refine S.bldN [(vi 2), (vi 0), (vi 0), (vi 0), (vi 1), (vi 0), (.bool true)] 0 rfl rfl rfl (by decide) ?_
                  cases M
                  exact H _ _  S.drops
                · have M := cond_F hc M
                  refine WP_eql.2 ?_
                  refine br_lf (fun hc => ?_) (fun hc => ?_)
                  · have M := cond_T hc M
                    refine WPb [(vi 11), (vi 0), (vi 0)] (by simp only [sizL, cellsOf_agg, cellsOf_int, cellsOf_bool, cellsOf_str,  List.length_cons, List.length_nil, Nat.reduceAdd, Nat.zero_add, decide_true, Bool.and_self]) (by simp only [List.flatMap_cons, List.flatMap_nil, cellsOf_agg, cellsOf_int, cellsOf_bool, cellsOf_str,  List.cons_append, List.nil_append, List.append_nil]) ?_
                    refine (WX_build (l := [(vi 11), (vi 0), (vi 0), (vi 0), (vi 0), (vi 0), (.bool false)]) (fillL_step (m := [(vi 11), (vi 0), (vi 0)]) (l2 := [(vi 11), (vi 0), (vi 0), (vi 0), (vi 0), (vi 0), (.bool false)]) rfl rfl (Nat.le_of_ble_eq_true rfl) rfl rfl)).2 ?_
                    refine S.bst [(vi 11), (vi 0), (vi 0), (vi 0), (vi 0), (vi 0), (.bool false)] [(vi 11), (vi 0), (vi 0), (vi 0), (vi 0), (vi 0), (.bool false)] rfl rfl (one_cons rfl (one_cons rfl (one_cons rfl (one_cons rfl (one_cons rfl (one_cons rfl (one_cons rfl rfl))))))) (Nat.le_of_ble_eq_true rfl) rfl (fun h S => ?_)
                    refine S.bldN [(vi 11), (vi 0), (vi 0), (vi 0), (vi 0), (vi 0), (.bool false)] 0 rfl rfl rfl (by decide) ?_
                    cases M
                    exact H _ _  S.drops
                  · have M := cond_F hc M
                    refine WP_eql.2 ?_
                    refine br_lf (fun hc => ?_) (fun hc => ?_)
                    · have M := cond_T hc M
                      refine WPb [(vi 1), (vi 11), (vi 0)] (by simp only [sizL, cellsOf_agg, cellsOf_int, cellsOf_bool, cellsOf_str,  List.length_cons, List.length_nil, Nat.reduceAdd, Nat.zero_add, decide_true, Bool.and_self]) (by simp only [List.flatMap_cons, List.flatMap_nil, cellsOf_agg, cellsOf_int, cellsOf_bool, cellsOf_str,  List.cons_append, List.nil_append, List.append_nil]) ?_
                      refine WPb [(vi 1), (vi 0)] (by simp only [sizL, cellsOf_agg, cellsOf_int, cellsOf_bool, cellsOf_str,  List.length_cons, List.length_nil, Nat.reduceAdd, Nat.zero_add, decide_true, Bool.and_self]) (by simp only [List.flatMap_cons, List.flatMap_nil, cellsOf_agg, cellsOf_int, cellsOf_bool, cellsOf_str,  List.cons_append, List.nil_append, List.append_nil]) ?_
                      refine (WX_build (l := [(vi 1), (vi 11), (vi 0), (vi 0), (vi 1), (vi 0), (.bool false)]) (fillL_step (m := [(vi 1), (vi 11), (vi 0)]) (l2 := [(vi 1), (vi 11), (vi 0), (vi 0), (vi 0), (vi 0), (.bool false)]) rfl rfl (Nat.le_of_ble_eq_true rfl) rfl (fillL_step (m := [(vi 1), (vi 0)]) (l2 := [(vi 1), (vi 11), (vi 0), (vi 0), (vi 1), (vi 0), (.bool false)]) rfl rfl (Nat.le_of_ble_eq_true rfl) rfl rfl))).2 ?_
                      refine S.bst [(vi 1), (vi 11), (vi 0), (vi 0), (vi 1), (vi 0), (.bool false)] [(vi 1), (vi 11), (vi 0), (vi 0), (vi 1), (vi 0), (.bool false)] rfl rfl (one_cons rfl (one_cons rfl (one_cons rfl (one_cons rfl (one_cons rfl (one_cons rfl (one_cons rfl rfl))))))) (Nat.le_of_ble_eq_true rfl) rfl (fun h S => ?_)
                      refine S.bldN [(vi 1), (vi 11), (vi 0), (vi 0), (vi 1), (vi 0), (.bool false)] 0 rfl rfl rfl (by decide) ?_
                      cases M
                      exact H _ _  S.drops
                    · have M := cond_F hc M
                      refine WP_eql.2 ?_
                      refine br_lf (fun hc => ?_) (fun hc => ?_)
                      · have M := cond_T hc M
                        refine WPb [(vi 12), (vi 0), (vi 0)] (by simp only [sizL, cellsOf_agg, cellsOf_int, cellsOf_bool, cellsOf_str,  List.length_cons, List.length_nil, Nat.reduceAdd, Nat.zero_add, decide_true, Bool.and_self]) (by simp only [List.flatMap_cons, List.flatMap_nil, cellsOf_agg, cellsOf_int, cellsOf_bool, cellsOf_str,  List.cons_append, List.nil_append, List.append_nil]) ?_
                        refine (WX_build (l := [(vi 12), (vi 0), (vi 0), (vi 0), (vi 0), (vi 0), (.bool true)]) (fillL_step (m := [(vi 12), (vi 0), (vi 0)]) (l2 := [(vi 12), (vi 0), (vi 0), (vi 0), (vi 0), (vi 0), (.bool false)]) rfl rfl (Nat.le_of_ble_eq_true rfl) rfl (fillL_step (m := [(.bool true)]) (l2 := [(vi 12), (vi 0), (vi 0), (vi 0), (vi 0), (vi 0), (.bool true)]) rfl rfl (Nat.le_of_ble_eq_true rfl) rfl rfl))).2 ?_
                        refine S.bst [(vi 12), (vi 0), (vi 0), (vi 0), (vi 0), (vi 0), (.bool true)] [(vi 12), (vi 0), (vi 0), (vi 0), (vi 0), (vi 0), (.bool true)] rfl rfl (one_cons rfl (one_cons rfl (one_cons rfl (one_cons rfl (one_cons rfl (one_cons rfl (one_cons rfl rfl))))))) (Nat.le_of_ble_eq_true rfl) rfl (fun h S => ?_)
                        refine S.bldN [(vi 12), (vi 0), (vi 0), (vi 0), (vi 0), (vi 0), (.bool true)] 0 rfl rfl rfl (by decide) ?_
                        cases M
                        exact H _ _  S.drops
                      · have M := cond_F hc M
                        refine WP_eql.2 ?_
                        refine br_lf (fun hc => ?_) (fun hc => ?_)
                        · have M := cond_T hc M
                          refine (WX_build (l := [(vi 0), (vi 0), (vi 0), (vi 0), (vi 0), (vi 0), (.bool true)]) (fillL_step (m := [(.bool true)]) (l2 := [(vi 0), (vi 0), (vi 0), (vi 0), (vi 0), (vi 0), (.bool true)]) rfl rfl (Nat.le_of_ble_eq_true rfl) rfl rfl)).2 ?_
                          refine S.bst [(vi 0), (vi 0), (vi 0), (vi 0), (vi 0), (vi 0), (.bool true)] [(vi 0), (vi 0), (vi 0), (vi 0), (vi 0), (vi 0), (.bool true)] rfl rfl (one_cons rfl (one_cons rfl (one_cons rfl (one_cons rfl (one_cons rfl (one_cons rfl (one_cons rfl rfl))))))) (Nat.le_of_ble_eq_true rfl) rfl (fun h S => ?_)
                          refine S.bldN [(vi 0), (vi 0), (vi 0), (vi 0), (vi 0), (vi 0), (.bool true)] 0 rfl rfl rfl (by decide) ?_
                          cases M
                          exact H _ _  S.drops
                        · have M := cond_F hc M
                          refine WP_eql.2 ?_
                          refine br_lf (fun hc => ?_) (fun hc => ?_)
                          · have M := cond_T hc M
                            refine WPb [(vi 2), (vi 0), (vi 0)] (by simp only [sizL, cellsOf_agg, cellsOf_int, cellsOf_bool, cellsOf_str,  List.length_cons, List.length_nil, Nat.reduceAdd, Nat.zero_add, decide_true, Bool.and_self]) (by simp only [List.flatMap_cons, List.flatMap_nil, cellsOf_agg, cellsOf_int, cellsOf_bool, cellsOf_str,  List.cons_append, List.nil_append, List.append_nil]) ?_
                            refine WPb [(vi 1), (vi 0)] (by simp only [sizL, cellsOf_agg, cellsOf_int, cellsOf_bool, cellsOf_str,  List.length_cons, List.length_nil, Nat.reduceAdd, Nat.zero_add, decide_true, Bool.and_self]) (by simp only [List.flatMap_cons, List.flatMap_nil, cellsOf_agg, cellsOf_int, cellsOf_bool, cellsOf_str,  List.cons_append, List.nil_append, List.append_nil]) ?_
                            refine (WX_build (l := [(vi 2), (vi 0), (vi 0), (vi 0), (vi 1), (vi 0), (.bool false)]) (fillL_step (m := [(vi 2), (vi 0), (vi 0)]) (l2 := [(vi 2), (vi 0), (vi 0), (vi 0), (vi 0), (vi 0), (.bool false)]) rfl rfl (Nat.le_of_ble_eq_true rfl) rfl (fillL_step (m := [(vi 1), (vi 0)]) (l2 := [(vi 2), (vi 0), (vi 0), (vi 0), (vi 1), (vi 0), (.bool false)]) rfl rfl (Nat.le_of_ble_eq_true rfl) rfl rfl))).2 ?_
                            refine S.bst [(vi 2), (vi 0), (vi 0), (vi 0), (vi 1), (vi 0), (.bool false)] [(vi 2), (vi 0), (vi 0), (vi 0), (vi 1), (vi 0), (.bool false)] rfl rfl (one_cons rfl (one_cons rfl (one_cons rfl (one_cons rfl (one_cons rfl (one_cons rfl (one_cons rfl rfl))))))) (Nat.le_of_ble_eq_true rfl) rfl (fun h S => ?_)
                            refine S.bldN [(vi 2), (vi 0), (vi 0), (vi 0), (vi 1), (vi 0), (.bool false)] 0 rfl rfl rfl (by decide) ?_
                            cases M
                            exact H _ _  S.drops
                          · have M := cond_F hc M
                            refine WP_eql.2 ?_
                            refine br_lf (fun hc => ?_) (fun hc => ?_)
                            · have M := cond_T hc M
                              refine WPb [(vi 1), (vi 0), (vi 0)] (by simp only [sizL, cellsOf_agg, cellsOf_int, cellsOf_bool, cellsOf_str,  List.length_cons, List.length_nil, Nat.reduceAdd, Nat.zero_add, decide_true, Bool.and_self]) (by simp only [List.flatMap_cons, List.flatMap_nil, cellsOf_agg, cellsOf_int, cellsOf_bool, cellsOf_str,  List.cons_append, List.nil_append, List.append_nil]) ?_
                              refine WPb [(vi 1), (vi 0)] (by simp only [sizL, cellsOf_agg, cellsOf_int, cellsOf_bool, cellsOf_str,  List.length_cons, List.length_nil, Nat.reduceAdd, Nat.zero_add, decide_true, Bool.and_self]) (by simp only [List.flatMap_cons, List.flatMap_nil, cellsOf_agg, cellsOf_int, cellsOf_bool, cellsOf_str,  List.cons_append, List.nil_append, List.append_nil]) ?_
                              refine (WX_build (l := [(vi 1), (vi 0), (vi 0), (vi 0), (vi 1), (vi 0), (.bool false)]) (fillL_step (m := [(vi 1), (vi 0), (vi 0)]) (l2 := [(vi 1), (vi 0), (vi 0), (vi 0), (vi 0), (vi 0), (.bool false)]) rfl rfl (Nat.le_of_ble_eq_true rfl) rfl (fillL_step (m := [(vi 1), (vi 0)]) (l2 := [(vi 1), (vi 0), (vi 0), (vi 0), (vi 1), (vi 0), (.bool false)]) rfl rfl (Nat.le_of_ble_eq_true rfl) rfl rfl))).2 ?_
                              refine S.bst [(vi 1), (vi 0), (vi 0), (vi 0), (vi 1), (vi 0), (.bool false)] [(vi 1), (vi 0), (vi 0), (vi 0), (vi 1), (vi 0), (.bool false)] rfl rfl (one_cons rfl (one_cons rfl (one_cons rfl (one_cons rfl (one_cons rfl (one_cons rfl (one_cons rfl rfl))))))) (Nat.le_of_ble_eq_true rfl) rfl (fun h S => ?_)
                              refine S.bldN [(vi 1), (vi 0), (vi 0), (vi 0), (vi 1), (vi 0), (.bool false)] 0 rfl rfl rfl (by decide) ?_
                              cases M
                              exact H _ _  S.drops
                            · have M := cond_F hc M
                              refine WP_eql.2 ?_
                              refine br_lf (fun hc => ?_) (fun hc => ?_)
                              · have M := cond_T hc M
                                refine WPb [(vi 1), (vi 0), (vi 0)] (by simp only [sizL, cellsOf_agg, cellsOf_int, cellsOf_bool, cellsOf_str,  List.length_cons, List.length_nil, Nat.reduceAdd, Nat.zero_add, decide_true, Bool.and_self]) (by simp only [List.flatMap_cons, List.flatMap_nil, cellsOf_agg, cellsOf_int, cellsOf_bool, cellsOf_str,  List.cons_append, List.nil_append, List.append_nil]) ?_
                                refine WPb [(vi 1), (vi 0)] (by simp only [sizL, cellsOf_agg, cellsOf_int, cellsOf_bool, cellsOf_str,  List.length_cons, List.length_nil, Nat.reduceAdd, Nat.zero_add, decide_true, Bool.and_self]) (by simp only [List.flatMap_cons, List.flatMap_nil, cellsOf_agg, cellsOf_int, cellsOf_bool, cellsOf_str,  List.cons_append, List.nil_append, List.append_nil]) ?_
                                refine (WX_build (l := [(vi 1), (vi 0), (vi 0), (vi 0), (vi 1), (vi 0), (.bool true)]) (fillL_step (m := [(vi 1), (vi 0), (vi 0)]) (l2 := [(vi 1), (vi 0), (vi 0), (vi 0), (vi 0), (vi 0), (.bool false)]) rfl rfl (Nat.le_of_ble_eq_true rfl) rfl (fillL_step (m := [(vi 1), (vi 0)]) (l2 := [(vi 1), (vi 0), (vi 0), (vi 0), (vi 1), (vi 0), (.bool false)]) rfl rfl (Nat.le_of_ble_eq_true rfl) rfl (fillL_step (m := [(.bool true)]) (l2 := [(vi 1), (vi 0), (vi 0), (vi 0), (vi 1), (vi 0), (.bool true)]) rfl rfl (Nat.le_of_ble_eq_true rfl) rfl rfl)))).2 ?_
                                refine S.bst [(vi 1), (vi 0), (vi 0), (vi 0), (vi 1), (vi 0), (.bool true)] [(vi 1), (vi 0), (vi 0), (vi 0), (vi 1), (vi 0), (.bool true)] rfl rfl (one_cons rfl (one_cons rfl (one_cons rfl (one_cons rfl (one_cons rfl (one_cons rfl (one_cons rfl rfl))))))) (Nat.le_of_ble_eq_true rfl) rfl (fun h S => ?_)
                                refine S.bldN [(vi 1), (vi 0), (vi 0), (vi 0), (vi 1), (vi 0), (.bool true)] 0 rfl rfl rfl (by decide) ?_
                                cases M
                                exact H _ _  S.drops
                              · have M := cond_F hc M
                                refine WP_eql.2 ?_
                                refine br_lf (fun hc => ?_) (fun hc => ?_)
                                · have M := cond_T hc M
                                  refine (WX_build (l := [(vi 0), (vi 0), (vi 0), (vi 0), (vi 0), (vi 0), (.bool false)]) rfl).2 ?_
                                  refine S.bst [(vi 0), (vi 0), (vi 0), (vi 0), (vi 0), (vi 0), (.bool false)] [(vi 0), (vi 0), (vi 0), (vi 0), (vi 0), (vi 0), (.bool false)] rfl rfl (one_cons rfl (one_cons rfl (one_cons rfl (one_cons rfl (one_cons rfl (one_cons rfl (one_cons rfl rfl))))))) (Nat.le_of_ble_eq_true rfl) rfl (fun h S => ?_)
                                  refine S.bldN [(vi 0), (vi 0), (vi 0), (vi 0), (vi 0), (vi 0), (.bool false)] 0 rfl rfl rfl (by decide) ?_
                                  cases M
                                  exact H _ _  S.drops
                                · have M := cond_F hc M
                                  refine WP_eql.2 ?_
                                  refine br_lf (fun hc => ?_) (fun hc => ?_)
                                  · have M := cond_T hc M
                                    refine WPb [(vi 1), (vi 11), (vi 0)] (by simp only [sizL, cellsOf_agg, cellsOf_int, cellsOf_bool, cellsOf_str,  List.length_cons, List.length_nil, Nat.reduceAdd, Nat.zero_add, decide_true, Bool.and_self]) (by simp only [List.flatMap_cons, List.flatMap_nil, cellsOf_agg, cellsOf_int, cellsOf_bool, cellsOf_str,  List.cons_append, List.nil_append, List.append_nil]) ?_
                                    refine WPb [(vi 1), (vi 0)] (by simp only [sizL, cellsOf_agg, cellsOf_int, cellsOf_bool, cellsOf_str,  List.length_cons, List.length_nil, Nat.reduceAdd, Nat.zero_add, decide_true, Bool.and_self]) (by simp only [List.flatMap_cons, List.flatMap_nil, cellsOf_agg, cellsOf_int, cellsOf_bool, cellsOf_str,  List.cons_append, List.nil_append, List.append_nil]) ?_
                                    refine (WX_build (l := [(vi 1), (vi 11), (vi 0), (vi 0), (vi 1), (vi 0), (.bool true)]) (fillL_step (m := [(vi 1), (vi 11), (vi 0)]) (l2 := [(vi 1), (vi 11), (vi 0), (vi 0), (vi 0), (vi 0), (.bool false)]) rfl rfl (Nat.le_of_ble_eq_true rfl) rfl (fillL_step (m := [(vi 1), (vi 0)]) (l2 := [(vi 1), (vi 11), (vi 0), (vi 0), (vi 1), (vi 0), (.bool false)]) rfl rfl (Nat.le_of_ble_eq_true rfl) rfl (fillL_step (m := [(.bool true)]) (l2 := [(vi 1), (vi 11), (vi 0), (vi 0), (vi 1), (vi 0), (.bool true)]) rfl rfl (Nat.le_of_ble_eq_true rfl) rfl rfl)))).2 ?_
                                    refine S.bst [(vi 1), (vi 11), (vi 0), (vi 0), (vi 1), (vi 0), (.bool true)] [(vi 1), (vi 11), (vi 0), (vi 0), (vi 1), (vi 0), (.bool true)] rfl rfl (one_cons rfl (one_cons rfl (one_cons rfl (one_cons rfl (one_cons rfl (one_cons rfl (one_cons rfl rfl))))))) (Nat.le_of_ble_eq_true rfl) rfl (fun h S => ?_)
                                    refine S.bldN [(vi 1), (vi 11), (vi 0), (vi 0), (vi 1), (vi 0), (.bool true)] 0 rfl rfl rfl (by decide) ?_
                                    cases M
                                    exact H _ _  S.drops
                                  · have M := cond_F hc M
                                    refine WP_eql.2 ?_
                                    refine br_lf (fun hc => ?_) (fun hc => ?_)
                                    · have M := cond_T hc M
                                      refine WPb [(vi 1), (vi 13), (vi 0)] (by simp only [sizL, cellsOf_agg, cellsOf_int, cellsOf_bool, cellsOf_str,  List.length_cons, List.length_nil, Nat.reduceAdd, Nat.zero_add, decide_true, Bool.and_self]) (by simp only [List.flatMap_cons, List.flatMap_nil, cellsOf_agg, cellsOf_int, cellsOf_bool, cellsOf_str,  List.cons_append, List.nil_append, List.append_nil]) ?_
                                      refine (WX_build (l := [(vi 1), (vi 13), (vi 0), (vi 1), (vi 0), (vi 0), (.bool false)]) (fillL_step (m := [(vi 1), (vi 13), (vi 0)]) (l2 := [(vi 1), (vi 13), (vi 0), (vi 0), (vi 0), (vi 0), (.bool false)]) rfl rfl (Nat.le_of_ble_eq_true rfl) rfl (fillL_step (m := [(vi 1)]) (l2 := [(vi 1), (vi 13), (vi 0), (vi 1), (vi 0), (vi 0), (.bool false)]) rfl rfl (Nat.le_of_ble_eq_true rfl) rfl rfl))).2 ?_
                                      refine S.bst [(vi 1), (vi 13), (vi 0), (vi 1), (vi 0), (vi 0), (.bool false)] [(vi 1), (vi 13), (vi 0), (vi 1), (vi 0), (vi 0), (.bool false)] rfl rfl (one_cons rfl (one_cons rfl (one_cons rfl (one_cons rfl (one_cons rfl (one_cons rfl (one_cons rfl rfl))))))) (Nat.le_of_ble_eq_true rfl) rfl (fun h S => ?_)
                                      refine S.bldN [(vi 1), (vi 13), (vi 0), (vi 1), (vi 0), (vi 0), (.bool false)] 0 rfl rfl rfl (by decide) ?_
                                      cases M
                                      exact H _ _  S.drops
                                    · have M := cond_F hc M
                                      refine WP_eql.2 ?_
                                      refine br_lf (fun hc => ?_) (fun hc => ?_)
                                      · have M := cond_T hc M
                                        refine WPb [(vi 13), (vi 1), (vi 0)] (by simp only [sizL, cellsOf_agg, cellsOf_int, cellsOf_bool, cellsOf_str,  List.length_cons, List.length_nil, Nat.reduceAdd, Nat.zero_add, decide_true, Bool.and_self]) (by simp only [List.flatMap_cons, List.flatMap_nil, cellsOf_agg, cellsOf_int, cellsOf_bool, cellsOf_str,  List.cons_append, List.nil_append, List.append_nil]) ?_
                                        refine WPb [(vi 2), (vi 0)] (by simp only [sizL, cellsOf_agg, cellsOf_int, cellsOf_bool, cellsOf_str,  List.length_cons, List.length_nil, Nat.reduceAdd, Nat.zero_add, decide_true, Bool.and_self]) (by simp only [List.flatMap_cons, List.flatMap_nil, cellsOf_agg, cellsOf_int, cellsOf_bool, cellsOf_str,  List.cons_append, List.nil_append, List.append_nil]) ?_
                                        refine (WX_build (l := [(vi 13), (vi 1), (vi 0), (vi 0), (vi 2), (vi 0), (.bool false)]) (fillL_step (m := [(vi 13), (vi 1), (vi 0)]) (l2 := [(vi 13), (vi 1), (vi 0), (vi 0), (vi 0), (vi 0), (.bool false)]) rfl rfl (Nat.le_of_ble_eq_true rfl) rfl (fillL_step (m := [(vi 2), (vi 0)]) (l2 := [(vi 13), (vi 1), (vi 0), (vi 0), (vi 2), (vi 0), (.bool false)]) rfl rfl (Nat.le_of_ble_eq_true rfl) rfl rfl))).2 ?_
                                        refine S.bst [(vi 13), (vi 1), (vi 0), (vi 0), (vi 2), (vi 0), (.bool false)] [(vi 13), (vi 1), (vi 0), (vi 0), (vi 2), (vi 0), (.bool false)] rfl rfl (one_cons rfl (one_cons rfl (one_cons rfl (one_cons rfl (one_cons rfl (one_cons rfl (one_cons rfl rfl))))))) (Nat.le_of_ble_eq_true rfl) rfl (fun h S => ?_)
                                        refine S.bldN [(vi 13), (vi 1), (vi 0), (vi 0), (vi 2), (vi 0), (.bool false)] 0 rfl rfl rfl (by decide) ?_
                                        cases M
                                        exact H _ _  S.drops
                                      · have M := cond_F hc M
                                        exact g_cosignerref08_RowOf_J1_lf M S  H
theorem g_cosignerref08_RowOf_J4_lf {w0 : World} {c : Cx} {g h : AH} {E R : Value → W} {r : G_cosignerref08_Row × Bool} {v1 : G_cosignerref08_Row} {x0 : Int} {y26 : Bool} {v1_b : Nat}  (M : g_cosignerref08_RowOf_J4_M v1 x0 y26 = some r) (S : Sep c g h [.bx v1_b [(vi v1.fHas.e0), (vi v1.fHas.e1), (vi v1.fHas.e2), (vi v1.fWrites), (vi v1.fReads.e0), (vi v1.fReads.e1), (.bool v1.fRaises)]])   (H : cosignerref08_RowOf_H c R r) : g_cosignerref08_RowOf_J4 w0 E R (mkP v1_b 0) (vi x0) (.bool y26) h := by
  unfold g_cosignerref08_RowOf_J4
  unfold g_cosignerref08_RowOf_J4_M at M
  refine br_lf (fun hc => ?_) (fun hc => ?_)
  · have M := cond_T hc M
    refine WPb [(vi 1), (vi 1), (vi 1)] (by simp only [sizL, cellsOf_agg, cellsOf_int, cellsOf_bool, cellsOf_str,  List.length_cons, List.length_nil, Nat.reduceAdd, Nat.zero_add, decide_true, Bool.and_self]) (by simp only [List.flatMap_cons, List.flatMap_nil, cellsOf_agg, cellsOf_int, cellsOf_bool, cellsOf_str,  List.cons_append, List.nil_append, List.append_nil]) ?_
    refine WPb [(vi 2), (vi 3)] (by simp only [sizL, cellsOf_agg, cellsOf_int, cellsOf_bool, cellsOf_str,  List.length_cons, List.length_nil, Nat.reduceAdd, Nat.zero_add, decide_true, Bool.and_self]) (by simp only [List.flatMap_cons, List.flatMap_nil, cellsOf_agg, cellsOf_int, cellsOf_bool, cellsOf_str,  List.cons_append, List.nil_append, List.append_nil]) ?_
    refine WPb [(vi 1), (vi 1), (vi 1), (vi 1), (vi 2), (vi 3), (.bool true)] (by simp only [sizL, cellsOf_agg, cellsOf_int, cellsOf_bool, cellsOf_str,  List.length_cons, List.length_nil, Nat.reduceAdd, Nat.zero_add, decide_true, Bool.and_self]) (by simp only [List.flatMap_cons, List.flatMap_nil, cellsOf_agg, cellsOf_int, cellsOf_bool, cellsOf_str,  List.cons_append, List.nil_append, List.append_nil]) ?_
    refine S.bst [(vi 1), (vi 1), (vi 1), (vi 1), (vi 2), (vi 3), (.bool true)] [(vi 1), (vi 1), (vi 1), (vi 1), (vi 2), (vi 3), (.bool true)] rfl rfl (one_cons rfl (one_cons rfl (one_cons rfl (one_cons rfl (one_cons rfl (one_cons rfl (one_cons rfl rfl))))))) (Nat.le_of_ble_eq_true rfl) rfl (fun h S => ?_)
    refine S.bldN [(vi 1), (vi 1), (vi 1), (vi 1), (vi 2), (vi 3), (.bool true)] 0 rfl rfl rfl (by decide) ?_
    cases M
    exact H _ _  S.drops
  · have M := cond_F hc M
    refine WP_eql.2 ?_
    refine br_lf (fun hc => ?_) (fun hc => ?_)
    · have M := cond_T hc M
      exact g_cosignerref08_RowOf_J5_lf M S  H
    · have M := cond_F hc M
      refine WP_eql.2 ?_
      refine br_lf (fun hc => ?_) (fun hc => ?_)
      · have M := cond_T hc M
        exact g_cosignerref08_RowOf_J5_lf M S  H
      · have M := cond_F hc M
        refine WP_eql.2 ?_
        exact g_cosignerref08_RowOf_J5_lf M S  H
theorem g_cosignerref08_RowOf_J3_lf {w0 : World} {c : Cx} {g h : AH} {E R : Value → W} {r : G_cosignerref08_Row × Bool} {v1 : G_cosignerref08_Row} {x0 : Int} {y20 : Bool} {v1_b : Nat}  (M : g_cosignerref08_RowOf_J3_M v1 x0 y20 = some r) (S : Sep c g h [.bx v1_b [(vi v1.fHas.e0), (vi v1.fHas.e1), (vi v1.fHas.e2), (vi v1.fWrites), (vi v1.fReads.e0), (vi v1.fReads.e1), (.bool v1.fRaises)]])   (H : cosignerref08_RowOf_H c R r) : g_cosignerref08_RowOf_J3 w0 E R (mkP v1_b 0) (vi x0) (.bool y20) h := by
  unfold g_cosignerref08_RowOf_J3
  unfold g_cosignerref08_RowOf_J3_M at M
  refine br_lf (fun hc => ?_) (fun hc => ?_)
  · have M := cond_T hc M
    refine WPb [(vi 1), (vi 1), (vi 0)] (by simp only [sizL, cellsOf_agg, cellsOf_int, cellsOf_bool, cellsOf_str,  List.length_cons, List.length_nil, Nat.reduceAdd, Nat.zero_add, decide_true, Bool.and_self]) (by simp only [List.flatMap_cons, List.flatMap_nil, cellsOf_agg, cellsOf_int, cellsOf_bool, cellsOf_str,  List.cons_append, List.nil_append, List.append_nil]) ?_
    refine WPb [(vi 2), (vi 0)] (by simp only [sizL, cellsOf_agg, cellsOf_int, cellsOf_bool, cellsOf_str,  List.length_cons, List.length_nil, Nat.reduceAdd, Nat.zero_add, decide_true, Bool.and_self]) (by simp only [List.flatMap_cons, List.flatMap_nil, cellsOf_agg, cellsOf_int, cellsOf_bool, cellsOf_str,  List.cons_append, List.nil_append, List.append_nil]) ?_
    refine (WX_build (l := [(vi 1), (vi 1), (vi 0), (vi 1), (vi 2), (vi 0), (.bool false)]) (fillL_step (m := [(vi 1), (vi 1), (vi 0)]) (l2 := [(vi 1), (vi 1), (vi 0), (vi 0), (vi 0), (vi 0), (.bool false)]) rfl rfl (Nat.le_of_ble_eq_true rfl) rfl (fillL_step (m := [(vi 1)]) (l2 := [(vi 1), (vi 1), (vi 0), (vi 1), (vi 0), (vi 0), (.bool false)]) rfl rfl (Nat.le_of_ble_eq_true rfl) rfl (fillL_step (m := [(vi 2), (vi 0)]) (l2 := [(vi 1), (vi 1), (vi 0), (vi 1), (vi 2), (vi 0), (.bool false)]) rfl rfl (Nat.le_of_ble_eq_true rfl) rfl rfl)))).2 ?_
    refine S.bst [(vi 1), (vi 1), (vi 0), (vi 1), (vi 2), (vi 0), (.bool false)] [(vi 1), (vi 1), (vi 0), (vi 1), (vi 2), (vi 0), (.bool false)] rfl rfl (one_cons rfl (one_cons rfl (one_cons rfl (one_cons rfl (one_cons rfl (one_cons rfl (one_cons rfl rfl))))))) (Nat.le_of_ble_eq_true rfl) rfl (fun h S => ?_)
    refine S.bldN [(vi 1), (vi 1), (vi 0), (vi 1), (vi 2), (vi 0), (.bool false)] 0 rfl rfl rfl (by decide) ?_
    cases M
    exact H _ _  S.drops
  · have M := cond_F hc M
    refine WP_eql.2 ?_
    refine br_lf (fun hc => ?_) (fun hc => ?_)
    · have M := cond_T hc M
      exact g_cosignerref08_RowOf_J4_lf M S  H
    · have M := cond_F hc M
      refine WP_eql.2 ?_
      refine br_lf (fun hc => ?_) (fun hc => ?_)
      · have M := cond_T hc M
        exact g_cosignerref08_RowOf_J4_lf M S  H
      · have M := cond_F hc M
        refine WP_eql.2 ?_
        refine br_lf (fun hc => ?_) (fun hc => ?_)
        · have M := cond_T hc M
          exact g_cosignerref08_RowOf_J4_lf M S  H
        · have M := cond_F hc M
          refine WP_eql.2 ?_
          refine br_lf (fun hc => ?_) (fun hc => ?_)
          · have M := cond_T hc M
            exact g_cosignerref08_RowOf_J4_lf M S  H
          · have M := cond_F hc M
            refine WP_eql.2 ?_
            exact g_cosignerref08_RowOf_J4_lf M S  H
theorem g_cosignerref08_RowOf_J2_lf {w0 : World} {c : Cx} {g h : AH} {E R : Value → W} {r : G_cosignerref08_Row × Bool} {v1 : G_cosignerref08_Row} {x0 : Int} {y15 : Bool} {v1_b : Nat}  (M : g_cosignerref08_RowOf_J2_M v1 x0 y15 = some r) (S : Sep c g h [.bx v1_b [(vi v1.fHas.e0), (vi v1.fHas.e1), (vi v1.fHas.e2), (vi v1.fWrites), (vi v1.fReads.e0), (vi v1.fReads.e1), (.bool v1.fRaises)]])   (H : cosignerref08_RowOf_H c R r) : g_cosignerref08_RowOf_J2 w0 E R (mkP v1_b 0) (vi x0) (.bool y15) h := by
  unfold g_cosignerref08_RowOf_J2
  unfold g_cosignerref08_RowOf_J2_M at M
  refine br_lf (fun hc => ?_) (fun hc => ?_)
  · have M := cond_T hc M
    refine WPb [(vi 1), (vi 0), (vi 0)] (by simp only [sizL, cellsOf_agg, cellsOf_int, cellsOf_bool, cellsOf_str,  List.length_cons, List.length_nil, Nat.reduceAdd, Nat.zero_add, decide_true, Bool.and_self]) (by simp only [List.flatMap_cons, List.flatMap_nil, cellsOf_agg, cellsOf_int, cellsOf_bool, cellsOf_str,  List.cons_append, List.nil_append, List.append_nil]) ?_
    refine (WX_build (l := [(vi 1), (vi 0), (vi 0), (vi 1), (vi 0), (vi 0), (.bool false)]) (fillL_step (m := [(vi 1), (vi 0), (vi 0)]) (l2 := [(vi 1), (vi 0), (vi 0), (vi 0), (vi 0), (vi 0), (.bool false)]) rfl rfl (Nat.le_of_ble_eq_true rfl) rfl (fillL_step (m := [(vi 1)]) (l2 := [(vi 1), (vi 0), (vi 0), (vi 1), (vi 0), (vi 0), (.bool false)]) rfl rfl (Nat.le_of_ble_eq_true rfl) rfl rfl))).2 ?_
    refine S.bst [(vi 1), (vi 0), (vi 0), (vi 1), (vi 0), (vi 0), (.bool false)] [(vi 1), (vi 0), (vi 0), (vi 1), (vi 0), (vi 0), (.bool false)] rfl rfl (one_cons rfl (one_cons rfl (one_cons rfl (one_cons rfl (one_cons rfl (one_cons rfl (one_cons rfl rfl))))))) (Nat.le_of_ble_eq_true rfl) rfl (fun h S => ?_)
    refine S.bldN [(vi 1), (vi 0), (vi 0), (vi 1), (vi 0), (vi 0), (.bool false)] 0 rfl rfl rfl (by decide) ?_
    cases M
    exact H _ _  S.drops
  · have M := cond_F hc M
    refine WP_eql.2 ?_
    refine br_lf (fun hc => ?_) (fun hc => ?_)
    · have M := cond_T hc M
      exact g_cosignerref08_RowOf_J3_lf M S  H
    · have M := cond_F hc M
      refine WP_eql.2 ?_
      refine br_lf (fun hc => ?_) (fun hc => ?_)
      · have M := cond_T hc M
        exact g_cosignerref08_RowOf_J3_lf M S  H
      · have M := cond_F hc M
        refine WP_eql.2 ?_
        refine br_lf (fun hc => ?_) (fun hc => ?_)
        · have M := cond_T hc M
          exact g_cosignerref08_RowOf_J3_lf M S  H
        · have M := cond_F hc M
          refine WP_eql.2 ?_
          exact g_cosignerref08_RowOf_J3_lf M S  H
theorem cosignerref08_RowOf_lf {w0 : World} {g h : AH} {Q : CR → AH → Prop} {r : G_cosignerref08_Row × Bool} {x0 : Int} (M : cosignerref08_RowOf_M x0 = some r) (sg : Sub g h) (ok : h.Ok)  (H : cosignerref08_RowOf_H ⟨g, h, []⟩ (fun v => Q (.ret v)) r) : WF PP w0 id_cosignerref08_RowOf [(vi x0)] h Q := by
  refine g_cosignerref08_RowOf_wp _ ?_
  have S := Sep.start sg ok
  unfold g_cosignerref08_RowOf_F
  unfold cosignerref08_RowOf_M at M
  refine S.alloc (l := [(vi 0), (vi 0), (vi 0), (vi 0), (vi 0), (vi 0), (.bool false)]) (one_cons rfl (one_cons rfl (one_cons rfl (one_cons rfl (one_cons rfl (one_cons rfl (one_cons rfl rfl))))))) (fun b_1 h S => ?_)
  refine WP_eql.2 ?_
  refine br_lf (fun hc => ?_) (fun hc => ?_)
  · have M := cond_T hc M
    refine WPb [(vi 1), (vi 3), (vi 0)] (by simp only [sizL, cellsOf_agg, cellsOf_int, cellsOf_bool, cellsOf_str,  List.length_cons, List.length_nil, Nat.reduceAdd, Nat.zero_add, decide_true, Bool.and_self]) (by simp only [List.flatMap_cons, List.flatMap_nil, cellsOf_agg, cellsOf_int, cellsOf_bool, cellsOf_str,  List.cons_append, List.nil_append, List.append_nil]) ?_
    refine (WX_build (l := [(vi 1), (vi 3), (vi 0), (vi 1), (vi 0), (vi 0), (.bool false)]) (fillL_step (m := [(vi 1), (vi 3), (vi 0)]) (l2 := [(vi 1), (vi 3), (vi 0), (vi 0), (vi 0), (vi 0), (.bool false)]) rfl rfl (Nat.le_of_ble_eq_true rfl) rfl (fillL_step (m := [(vi 1)]) (l2 := [(vi 1), (vi 3), (vi 0), (vi 1), (vi 0), (vi 0), (.bool false)]) rfl rfl (Nat.le_of_ble_eq_true rfl) rfl rfl))).2 ?_
    refine S.bst [(vi 1), (vi 3), (vi 0), (vi 1), (vi 0), (vi 0), (.bool false)] [(vi 1), (vi 3), (vi 0), (vi 1), (vi 0), (vi 0), (.bool false)] rfl rfl (one_cons rfl (one_cons rfl (one_cons rfl (one_cons rfl (one_cons rfl (one_cons rfl (one_cons rfl rfl))))))) (Nat.le_of_ble_eq_true rfl) rfl (fun h S => ?_)
    refine S.bldN [(vi 1), (vi 3), (vi 0), (vi 1), (vi 0), (vi 0), (.bool false)] 0 rfl rfl rfl (by decide) ?_
    cases M
    exact H _ _  S.drops
  · have M := cond_F hc M
    refine WP_eql.2 ?_
    refine br_lf (fun hc => ?_) (fun hc => ?_)
    · have M := cond_T hc M
      refine WPb [(vi 1), (vi 4), (vi 0)] (by simp only [sizL, cellsOf_agg, cellsOf_int, cellsOf_bool, cellsOf_str,  List.length_cons, List.length_nil, Nat.reduceAdd, Nat.zero_add, decide_true, Bool.and_self]) (by simp only [List.flatMap_cons, List.flatMap_nil, cellsOf_agg, cellsOf_int, cellsOf_bool, cellsOf_str,  List.cons_append, List.nil_append, List.append_nil]) ?_
      refine (WX_build (l := [(vi 1), (vi 4), (vi 0), (vi 1), (vi 0), (vi 0), (.bool false)]) (fillL_step (m := [(vi 1), (vi 4), (vi 0)]) (l2 := [(vi 1), (vi 4), (vi 0), (vi 0), (vi 0), (vi 0), (.bool false)]) rfl rfl (Nat.le_of_ble_eq_true rfl) rfl (fillL_step (m := [(vi 1)]) (l2 := [(vi 1), (vi 4), (vi 0), (vi 1), (vi 0), (vi 0), (.bool false)]) rfl rfl (Nat.le_of_ble_eq_true rfl) rfl rfl))).2 ?_
      refine S.bst [(vi 1), (vi 4), (vi 0), (vi 1), (vi 0), (vi 0), (.bool false)] [(vi 1), (vi 4), (vi 0), (vi 1), (vi 0), (vi 0), (.bool false)] rfl rfl (one_cons rfl (one_cons rfl (one_cons rfl (one_cons rfl (one_cons rfl (one_cons rfl (one_cons rfl rfl))))))) (Nat.le_of_ble_eq_true rfl) rfl (fun h S => ?_)
      refine S.bldN [(vi 1), (vi 4), (vi 0), (vi 1), (vi 0), (vi 0), (.bool false)] 0 rfl rfl rfl (by decide) ?_
      cases M
      exact H _ _  S.drops
    · have M := cond_F hc M
      refine WP_eql.2 ?_
      refine br_lf (fun hc => ?_) (fun hc => ?_)
      · have M := cond_T hc M
        exact g_cosignerref08_RowOf_J2_lf M S  H
      · have M := cond_F hc M
        refine WP_eql.2 ?_
        exact g_cosignerref08_RowOf_J2_lf M S  H
def g_cosignerref08_jump_J2_M   : Option (Int × Bool) :=
 some (0, false)
def g_cosignerref08_jump_P1_M (v1 : G_api_Ins) (v8 : Bool)  : Option (Int × Bool) :=
 bif v8 then (
 some (v1.fB, true)) else (
 g_cosignerref08_jump_J2_M )
def g_cosignerref08_jump_J1_M (v1 : G_api_Ins)  : Option (Int × Bool) :=
 bif (decide (v1.fOp = 25)) then (
 g_cosignerref08_jump_P1_M v1 true) else (
 g_cosignerref08_jump_P1_M v1 (decide (v1.fOp = 32)))
def cosignerref08_jump_M (x0 : G_api_Ins) : Option (Int × Bool) :=
 bif (decide (x0.fOp = 24)) then (
 some (x0.fA, true)) else (
 g_cosignerref08_jump_J1_M x0)
abbrev cosignerref08_jump_H (c : Cx) (R : Value → W) (r : Int × Bool) : Prop := ∀ (g' h' : AH), Sep c g' h' [] → R (.tuple ⟨[(vi r.1), (.bool r.2)]⟩) h'
theorem g_cosignerref08_jump_J2_lf {w0 : World} {c : Cx} {g h : AH} {E R : Value → W} {r : Int × Bool}   (M : g_cosignerref08_jump_J2_M  = some r) (S : Sep c g h [])   (H : cosignerref08_jump_H c R r) : g_cosignerref08_jump_J2 w0 E R  h := by
  unfold g_cosignerref08_jump_J2
  unfold g_cosignerref08_jump_J2_M at M
  cases M
  exact H _ _  S.drops
theorem g_cosignerref08_jump_P1_lf {w0 : World} {c : Cx} {g h : AH} {E R : Value → W} {r : Int × Bool} {v1 : G_api_Ins} {v8 : Bool} {v1_b : Nat}  (M : g_cosignerref08_jump_P1_M v1 v8 = some r) (S : Sep c g h [.bx v1_b [(vi v1.fOp), (vi v1.fA), (vi v1.fB), (vi v1.fC)]])   (H : cosignerref08_jump_H c R r) : g_cosignerref08_jump_P1 w0 E R (mkP v1_b 0) (.bool v8) h := by
  unfold g_cosignerref08_jump_P1
  unfold g_cosignerref08_jump_P1_M at M
  refine br_lf (fun hc => ?_) (fun hc => ?_)
  · have M := cond_T hc M
    refine WP_fieldAddr.2 ?_
    refine S.bld1 0 rfl rfl ?_
    cases M
    exact H _ _  S.drops
  · have M := cond_F hc M
    have S := S.t0
    exact g_cosignerref08_jump_J2_lf M S  H
theorem g_cosignerref08_jump_J1_lf {w0 : World} {c : Cx} {g h : AH} {E R : Value → W} {r : Int × Bool} {v1 : G_api_Ins} {v1_b : Nat}  (M : g_cosignerref08_jump_J1_M v1 = some r) (S : Sep c g h [.bx v1_b [(vi v1.fOp), (vi v1.fA), (vi v1.fB), (vi v1.fC)]])   (H : cosignerref08_jump_H c R r) : g_cosignerref08_jump_J1 w0 E R (mkP v1_b 0) h := by
  unfold g_cosignerref08_jump_J1
  unfold g_cosignerref08_jump_J1_M at M
  refine WP_fieldAddr.2 ?_
  refine S.bld1 0 rfl rfl ?_
  refine WP_eql.2 ?_
  cases hc : (decide (v1.fOp = 25))
  · have M := cond_F hc M
    refine gd_hit rfl ?_
    refine WP_fieldAddr.2 ?_
    refine gd_hit rfl ?_
    refine S.bld1 0 rfl rfl ?_
    refine gd_hit rfl ?_
    refine WP_eql.2 ?_
    refine WP_pick.2 ?_
    exact g_cosignerref08_jump_P1_lf M S  H
  · have M := cond_T hc M
    refine gd_mis (by decide) ?_
    refine gd_mis (by decide) ?_
    refine gd_mis (by decide) ?_
    refine WP_pick.2 ?_
    exact g_cosignerref08_jump_P1_lf M S  H
theorem cosignerref08_jump_lf {w0 : World} {g h : AH} {Q : CR → AH → Prop} {r : Int × Bool} {x0 : G_api_Ins} (M : cosignerref08_jump_M x0 = some r) (sg : Sub g h) (ok : h.Ok)  (H : cosignerref08_jump_H ⟨g, h, []⟩ (fun v => Q (.ret v)) r) : WF PP w0 id_cosignerref08_jump [(.agg ⟨[(vi x0.fOp), (vi x0.fA), (vi x0.fB), (vi x0.fC)]⟩)] h Q := by
  refine g_cosignerref08_jump_wp _ ?_
  have S := Sep.start sg ok
  unfold g_cosignerref08_jump_F
  unfold cosignerref08_jump_M at M
  refine S.box [(vi x0.fOp), (vi x0.fA), (vi x0.fB), (vi x0.fC)] rfl (one_cons rfl (one_cons rfl (one_cons rfl (one_cons rfl rfl)))) (fun b_1 h S => ?_)
  refine WP_fieldAddr.2 ?_
  refine S.bld1 0 rfl rfl ?_
  refine WP_eql.2 ?_
  refine br_lf (fun hc => ?_) (fun hc => ?_)
  · have M := cond_T hc M
    refine WP_fieldAddr.2 ?_
    refine S.bld1 0 rfl rfl ?_
    cases M
    exact H _ _  S.drops
  · have M := cond_F hc M
    exact g_cosignerref08_jump_J1_lf M S  H
def g_cosignerref08_Plain_J9_M (N : Nat) (y40 : Int) (k39_0 : G_api_Unit) (k39M : Int → Option Bool) : Option Bool :=
 k39M (wrapQ .i64 (y40 + 1))
def g_cosignerref08_Plain_P4_M (N : Nat) (y40 : Int) (v68 : Bool) (k39_0 : G_api_Unit) (k39M : Int → Option Bool) : Option Bool :=
 bif v68 then (
 some false) else (
 g_cosignerref08_Plain_J9_M N y40 k39_0 k39M)
def g_cosignerref08_Plain_J8_M (N : Nat) (v1 : G_api_Unit) (y40 : Int) (v4 : Int) (k39M : Int → Option Bool) : Option Bool :=
(ix v1.fCode y40).bind fun c_8 =>
(cosignerref08_RowOf_M c_8.fOp).bind fun c_14 =>
(ix v1.fCode y40).bind fun c_17 =>
(cosignerref08_jump_M c_17).bind fun c_23 =>
 bif (!c_14.2) then (
 g_cosignerref08_Plain_P4_M N y40 true v1 k39M) else (
 bif c_23.2 then (
(cosignerref08_in_M c_23.1 0 (wrapQ .i64 (v4 - 1))).bind fun c_25 =>
 g_cosignerref08_Plain_P4_M N y40 (!c_25) v1 k39M) else (
 g_cosignerref08_Plain_P4_M N y40 false v1 k39M))
def g_cosignerref08_Plain_J6_M (N : Nat) (y6 : Int) (k5_0 : G_api_Unit) (k5M : Int → Option Bool) : Option Bool :=
 k5M (wrapQ .i64 (y6 + 1))
def g_cosignerref08_Plain_P1_M (N : Nat) (y6 : Int) (v34 : Bool) (k5_0 : G_api_Unit) (k5M : Int → Option Bool) : Option Bool :=
 bif v34 then (
 some false) else (
 g_cosignerref08_Plain_J6_M N y6 k5_0 k5M)
def g_cosignerref08_Plain_P2_M (N : Nat) (v12 : G_api_Guard) (v4 : Int) (y6 : Int) (v27 : Bool) (k5_0 : G_api_Unit) (k5M : Int → Option Bool) : Option Bool :=
 bif v27 then (
 g_cosignerref08_Plain_P1_M N y6 true k5_0 k5M) else (
(cosignerref08_in_M v12.fAt 0 (wrapQ .i64 (v4 - 1))).bind fun c_34 =>
 g_cosignerref08_Plain_P1_M N y6 (!c_34) k5_0 k5M)
def g_cosignerref08_Plain_P3_M (N : Nat) (v12 : G_api_Guard) (v4 : Int) (y6 : Int) (v22 : Bool) (k5_0 : G_api_Unit) (k5M : Int → Option Bool) : Option Bool :=
 bif v22 then (
 g_cosignerref08_Plain_P2_M N v12 v4 y6 true k5_0 k5M) else (
 g_cosignerref08_Plain_P2_M N v12 v4 y6 (decide (v4 < v12.fTo)) k5_0 k5M)
def g_cosignerref08_Plain_J5_M (N : Nat) (v1 : G_api_Unit) (y6 : Int) (v4 : Int) (k5M : Int → Option Bool) : Option Bool :=
(ix v1.fGuards y6).bind fun c_27 =>
 bif (decide (c_27.fFrom < 0)) then (
 g_cosignerref08_Plain_P3_M N c_27 v4 y6 true v1 k5M) else (
 g_cosignerref08_Plain_P3_M N c_27 v4 y6 (decide (c_27.fTo ≤ c_27.fFrom)) v1 k5M)
def g_cosignerref08_Plain_J3_M (N : Nat)   : Option Bool :=
 some true
def g_cosignerref08_Plain_L4_M (N : Nat) (v1 : G_api_Unit) (v4 : Int) (y6 : Int) (k5M : Int → Option Bool) : Option Bool :=
 bif (decide (y6 < (v1.fGuards.length : Int))) then (
 g_cosignerref08_Plain_J5_M N v1 y6 v4 k5M) else (
 g_cosignerref08_Plain_J3_M N )
def g_cosignerref08_Plain_L4_I (N : Nat) (v1 : G_api_Unit) (v4 : Int)  : Nat → Int → Option Bool
  | 0, _ => none
  | n + 1, y6 => g_cosignerref08_Plain_L4_M N v1 v4 y6  (fun qy0 => g_cosignerref08_Plain_L4_I N v1 v4 n qy0)
def g_cosignerref08_Plain_J2_M (N : Nat) (v1 : G_api_Unit) (v4 : Int)  : Option Bool :=
 g_cosignerref08_Plain_L4_I N v1 v4 N 0
def g_cosignerref08_Plain_L7_M (N : Nat) (v4 : Int) (v1 : G_api_Unit) (y40 : Int) (k39M : Int → Option Bool) : Option Bool :=
 bif (decide (y40 < v4)) then (
 g_cosignerref08_Plain_J8_M N v1 y40 v4 k39M) else (
 g_cosignerref08_Plain_J2_M N v1 v4)
def g_cosignerref08_Plain_L7_I (N : Nat) (v4 : Int) (v1 : G_api_Unit)  : Nat → Int → Option Bool
  | 0, _ => none
  | n + 1, y40 => g_cosignerref08_Plain_L7_M N v4 v1 y40  (fun qy0 => g_cosignerref08_Plain_L7_I N v4 v1 n qy0)
def g_cosignerref08_Plain_J1_M (N : Nat) (v4 : Int) (v1 : G_api_Unit)  : Option Bool :=
 g_cosignerref08_Plain_L7_I N v4 v1 N 0
def g_cosignerref08_Plain_P5_M (N : Nat) (v4 : Int) (v1 : G_api_Unit) (v86 : Bool)  : Option Bool :=
 bif v86 then (
 some false) else (
 g_cosignerref08_Plain_J1_M N v4 v1)
def g_cosignerref08_Plain_P6_M (N : Nat) (v1 : G_api_Unit) (v4 : Int) (v81 : Bool)  : Option Bool :=
 bif v81 then (
 g_cosignerref08_Plain_P5_M N v4 v1 true) else (
(cosignerref08_in_M v1.fFrame 0 200).bind fun c_6 =>
 g_cosignerref08_Plain_P5_M N v4 v1 (!c_6))
def g_cosignerref08_Plain_P7_M (N : Nat) (v1 : G_api_Unit) (v4 : Int) (v76 : Bool)  : Option Bool :=
 bif v76 then (
 g_cosignerref08_Plain_P6_M N v1 v4 true) else (
(cosignerref08_in_M v1.fSlots 0 200).bind fun c_4 =>
 g_cosignerref08_Plain_P6_M N v1 v4 (!c_4))
def cosignerref08_Plain_M (N : Nat) (x0 : G_api_Unit) : Option Bool :=
(cosignerref08_in_M (x0.fCode.length : Int) 1 600).bind fun c_2 =>
 bif (!c_2) then (
 g_cosignerref08_Plain_P7_M N x0 (x0.fCode.length : Int) true) else (
 g_cosignerref08_Plain_P7_M N x0 (x0.fCode.length : Int) (decide (40 < (x0.fGuards.length : Int))))
abbrev cosignerref08_Plain_H (c : Cx) (R : Value → W) (r : Bool) : Prop := ∀ (g' h' : AH), Sep c g' h' [] → R (.bool r) h'
theorem g_cosignerref08_Plain_J9_lf {w0 : World} {c : Cx} {g h : AH} {E R : Value → W} {r : Bool} {N : Nat} {y40 : Int} {k39_0 : G_api_Unit} {k39_0_b : Nat} {k39_0_w1 k39_0_w2 : Value} {k39 : Value → W} {k39M : Int → Option Bool} {gbk39 : AH} (M : g_cosignerref08_Plain_J9_M N y40 k39_0 k39M = some r) (S : Sep c g h [.bx k39_0_b [(.string k39_0.fClass), (.string k39_0.fName), (vi k39_0.fArgs), (vi k39_0.fSlots), (vi k39_0.fFrame), k39_0_w1, k39_0_w2]]) (k39_0_F1 : FzS G_api_Ins.rep 4 g k39_0_w1 k39_0.fCode) (k39_0_F2 : FzS G_api_Guard.rep 3 g k39_0_w2 k39_0.fGuards) (sbk39 : Sub gbk39 g) (Hk39 : ∀ {qy0 : Int} {g2 h2 : AH}, k39M qy0 = some r → Sub gbk39 g2 → Sep c g2 h2 [.bx k39_0_b [(.string k39_0.fClass), (.string k39_0.fName), (vi k39_0.fArgs), (vi k39_0.fSlots), (vi k39_0.fFrame), k39_0_w1, k39_0_w2]] → k39 (vi qy0) h2) (H : cosignerref08_Plain_H c R r) : g_cosignerref08_Plain_J9 w0 E R (vi y40) k39 h := by
  unfold g_cosignerref08_Plain_J9
  unfold g_cosignerref08_Plain_J9_M at M
  refine WP_add.2 ?_
  exact Hk39 M sbk39 S
theorem g_cosignerref08_Plain_P4_lf {w0 : World} {c : Cx} {g h : AH} {E R : Value → W} {r : Bool} {N : Nat} {y40 : Int} {v68 : Bool} {k39_0 : G_api_Unit} {k39_0_b : Nat} {k39_0_w1 k39_0_w2 : Value} {k39 : Value → W} {k39M : Int → Option Bool} {gbk39 : AH} (M : g_cosignerref08_Plain_P4_M N y40 v68 k39_0 k39M = some r) (S : Sep c g h [.bx k39_0_b [(.string k39_0.fClass), (.string k39_0.fName), (vi k39_0.fArgs), (vi k39_0.fSlots), (vi k39_0.fFrame), k39_0_w1, k39_0_w2]]) (k39_0_F1 : FzS G_api_Ins.rep 4 g k39_0_w1 k39_0.fCode) (k39_0_F2 : FzS G_api_Guard.rep 3 g k39_0_w2 k39_0.fGuards) (sbk39 : Sub gbk39 g) (Hk39 : ∀ {qy0 : Int} {g2 h2 : AH}, k39M qy0 = some r → Sub gbk39 g2 → Sep c g2 h2 [.bx k39_0_b [(.string k39_0.fClass), (.string k39_0.fName), (vi k39_0.fArgs), (vi k39_0.fSlots), (vi k39_0.fFrame), k39_0_w1, k39_0_w2]] → k39 (vi qy0) h2) (H : cosignerref08_Plain_H c R r) : g_cosignerref08_Plain_P4 w0 E R (vi y40) k39 (.bool v68) h := by
  unfold g_cosignerref08_Plain_P4
  unfold g_cosignerref08_Plain_P4_M at M
  refine br_lf (fun hc => ?_) (fun hc => ?_)
  · have M := cond_T hc M
    cases M
    exact H _ _  S.drops
  · have M := cond_F hc M
    exact g_cosignerref08_Plain_J9_lf M S k39_0_F1 k39_0_F2 sbk39 Hk39 H
theorem g_cosignerref08_Plain_J8_lf {w0 : World} {c : Cx} {g h : AH} {E R : Value → W} {r : Bool} {N : Nat} {v1 : G_api_Unit} {y40 v4 : Int} {v1_b : Nat} {v1_w1 v1_w2 : Value} {k39 : Value → W} {k39M : Int → Option Bool} {gbk39 : AH} (M : g_cosignerref08_Plain_J8_M N v1 y40 v4 k39M = some r) (S : Sep c g h [.bx v1_b [(.string v1.fClass), (.string v1.fName), (vi v1.fArgs), (vi v1.fSlots), (vi v1.fFrame), v1_w1, v1_w2]]) (v1_F1 : FzS G_api_Ins.rep 4 g v1_w1 v1.fCode) (v1_F2 : FzS G_api_Guard.rep 3 g v1_w2 v1.fGuards) (sbk39 : Sub gbk39 g) (Hk39 : ∀ {qy0 : Int} {g2 h2 : AH}, k39M qy0 = some r → Sub gbk39 g2 → Sep c g2 h2 [.bx v1_b [(.string v1.fClass), (.string v1.fName), (vi v1.fArgs), (vi v1.fSlots), (vi v1.fFrame), v1_w1, v1_w2]] → k39 (vi qy0) h2) (H : cosignerref08_Plain_H c R r) : g_cosignerref08_Plain_J8 w0 E R (mkP v1_b 0) (vi y40) (vi v4) k39 h := by
  unfold g_cosignerref08_Plain_J8
  unfold g_cosignerref08_Plain_J8_M at M
  refine WP_fieldAddr.2 ?_
  refine S.bld1 0 rfl rfl ?_
  obtain ⟨c_8, hx_9, M⟩ := bind_some M
  refine FzS.idx v1_F1 hx_9 (fun b_10 o_11 vs E_13 r_12 rp => ?_)
  cases rp
  refine WP_fieldAddr.2 ?_
  refine S.fld1 (r_12 0 _ rfl) ?_
  obtain ⟨c_14, hx_15, M⟩ := bind_some M
  refine cosignerref08_RowOf_lf hx_15 S.sub S.ok (fun _ h  S1  => ?_)
  have S := S.call0 S1
  refine (WP_extract rfl).2 ?_
  refine (WP_extract rfl).2 ?_
  refine S.alloc (l := [(vi 0), (vi 0), (vi 0), (vi 0), (vi 0), (vi 0), (.bool false)]) (one_cons rfl (one_cons rfl (one_cons rfl (one_cons rfl (one_cons rfl (one_cons rfl (one_cons rfl rfl))))))) (fun b_16 h S => ?_)
  refine S.bst [(vi c_14.1.fHas.e0), (vi c_14.1.fHas.e1), (vi c_14.1.fHas.e2), (vi c_14.1.fWrites), (vi c_14.1.fReads.e0), (vi c_14.1.fReads.e1), (.bool c_14.1.fRaises)] [(vi c_14.1.fHas.e0), (vi c_14.1.fHas.e1), (vi c_14.1.fHas.e2), (vi c_14.1.fWrites), (vi c_14.1.fReads.e0), (vi c_14.1.fReads.e1), (.bool c_14.1.fRaises)] rfl rfl (one_cons rfl (one_cons rfl (one_cons rfl (one_cons rfl (one_cons rfl (one_cons rfl (one_cons rfl rfl))))))) (Nat.le_of_ble_eq_true rfl) rfl (fun h S => ?_)
  refine WP_fieldAddr.2 ?_
  refine S.bld1 1 rfl rfl ?_
  obtain ⟨c_17, hx_18, M⟩ := bind_some M
  refine FzS.idx v1_F1 hx_18 (fun b_19 o_20 vs E_22 r_21 rp => ?_)
  cases rp
  refine S.fldN r_21 rfl (by decide) ?_
  obtain ⟨c_23, hx_24, M⟩ := bind_some M
  refine cosignerref08_jump_lf hx_24 S.sub S.ok (fun _ h  S1  => ?_)
  have S := S.call0 S1
  refine (WP_extract rfl).2 ?_
  refine (WP_extract rfl).2 ?_
  refine WP_notB.2 ?_
  cases hc : (!c_14.2)
  · have M := cond_F hc M
    refine gd_hit rfl ?_
    refine gd_hit rfl ?_
    cases hc : c_23.2
    · have M := cond_F hc M
      refine gd_mis (by decide) ?_
      refine gd_mis (by decide) ?_
      refine gd_mis (by decide) ?_
      refine gd_mis (by decide) ?_
      refine gd_mis (by decide) ?_
      refine gd_hit rfl ?_
      refine WP_pick.2 ?_
      refine WP_pick.2 ?_
      have S := S.f1
      have S := S.t1
      exact g_cosignerref08_Plain_P4_lf M S v1_F1 v1_F2 sbk39 Hk39 H
    · have M := cond_T hc M
      refine gd_hit rfl ?_
      refine gd_hit rfl ?_
      refine gd_hit rfl ?_
      refine WP_sub.2 ?_
      refine gd_hit rfl ?_
      obtain ⟨c_25, hx_26, M⟩ := bind_some M
      refine cosignerref08_in_lf hx_26 S.sub S.ok (fun _ h  S1  => ?_)
      have S := S.call0 S1
      refine gd_hit rfl ?_
      refine WP_notB.2 ?_
      refine gd_hit rfl ?_
      refine WP_pick.2 ?_
      refine WP_pick.2 ?_
      have S := S.f1
      have S := S.t1
      exact g_cosignerref08_Plain_P4_lf M S v1_F1 v1_F2 sbk39 Hk39 H
  · have M := cond_T hc M
    refine gd_mis (by decide) ?_
    refine gd_mis (by decide) ?_
    refine gd_und ?_
    refine gd_und ?_
    refine gd_und ?_
    refine gd_und ?_
    refine gd_und ?_
    refine gd_mis (by decide) ?_
    refine WP_pick.2 ?_
    have S := S.f1
    have S := S.t1
    exact g_cosignerref08_Plain_P4_lf M S v1_F1 v1_F2 sbk39 Hk39 H
theorem g_cosignerref08_Plain_J6_lf {w0 : World} {c : Cx} {g h : AH} {E R : Value → W} {r : Bool} {N : Nat} {y6 : Int} {k5_0 : G_api_Unit} {k5_0_b : Nat} {k5_0_w1 k5_0_w2 : Value} {k5 : Value → W} {k5M : Int → Option Bool} {gbk5 : AH} (M : g_cosignerref08_Plain_J6_M N y6 k5_0 k5M = some r) (S : Sep c g h [.bx k5_0_b [(.string k5_0.fClass), (.string k5_0.fName), (vi k5_0.fArgs), (vi k5_0.fSlots), (vi k5_0.fFrame), k5_0_w1, k5_0_w2]]) (k5_0_F1 : FzS G_api_Ins.rep 4 g k5_0_w1 k5_0.fCode) (k5_0_F2 : FzS G_api_Guard.rep 3 g k5_0_w2 k5_0.fGuards) (sbk5 : Sub gbk5 g) (Hk5 : ∀ {qy0 : Int} {g2 h2 : AH}, k5M qy0 = some r → Sub gbk5 g2 → Sep c g2 h2 [.bx k5_0_b [(.string k5_0.fClass), (.string k5_0.fName), (vi k5_0.fArgs), (vi k5_0.fSlots), (vi k5_0.fFrame), k5_0_w1, k5_0_w2]] → k5 (vi qy0) h2) (H : cosignerref08_Plain_H c R r) : g_cosignerref08_Plain_J6 w0 E R (vi y6) k5 h := by
  unfold g_cosignerref08_Plain_J6
  unfold g_cosignerref08_Plain_J6_M at M
  refine WP_add.2 ?_
  exact Hk5 M sbk5 S
theorem g_cosignerref08_Plain_P1_lf {w0 : World} {c : Cx} {g h : AH} {E R : Value → W} {r : Bool} {N : Nat} {y6 : Int} {v34 : Bool} {k5_0 : G_api_Unit} {k5_0_b : Nat} {k5_0_w1 k5_0_w2 : Value} {k5 : Value → W} {k5M : Int → Option Bool} {gbk5 : AH} (M : g_cosignerref08_Plain_P1_M N y6 v34 k5_0 k5M = some r) (S : Sep c g h [.bx k5_0_b [(.string k5_0.fClass), (.string k5_0.fName), (vi k5_0.fArgs), (vi k5_0.fSlots), (vi k5_0.fFrame), k5_0_w1, k5_0_w2]]) (k5_0_F1 : FzS G_api_Ins.rep 4 g k5_0_w1 k5_0.fCode) (k5_0_F2 : FzS G_api_Guard.rep 3 g k5_0_w2 k5_0.fGuards) (sbk5 : Sub gbk5 g) (Hk5 : ∀ {qy0 : Int} {g2 h2 : AH}, k5M qy0 = some r → Sub gbk5 g2 → Sep c g2 h2 [.bx k5_0_b [(.string k5_0.fClass), (.string k5_0.fName), (vi k5_0.fArgs), (vi k5_0.fSlots), (vi k5_0.fFrame), k5_0_w1, k5_0_w2]] → k5 (vi qy0) h2) (H : cosignerref08_Plain_H c R r) : g_cosignerref08_Plain_P1 w0 E R (vi y6) k5 (.bool v34) h := by
  unfold g_cosignerref08_Plain_P1
  unfold g_cosignerref08_Plain_P1_M at M
  refine br_lf (fun hc => ?_) (fun hc => ?_)
  · have M := cond_T hc M
    cases M
    exact H _ _  S.drops
  · have M := cond_F hc M
    exact g_cosignerref08_Plain_J6_lf M S k5_0_F1 k5_0_F2 sbk5 Hk5 H
theorem g_cosignerref08_Plain_P2_lf {w0 : World} {c : Cx} {g h : AH} {E R : Value → W} {r : Bool} {N : Nat} {v12 : G_api_Guard} {v4 y6 : Int} {v27 : Bool} {k5_0 : G_api_Unit} {v12_b k5_0_b : Nat} {k5_0_w1 k5_0_w2 : Value} {k5 : Value → W} {k5M : Int → Option Bool} {gbk5 : AH} (M : g_cosignerref08_Plain_P2_M N v12 v4 y6 v27 k5_0 k5M = some r) (S : Sep c g h [.bx v12_b [(vi v12.fFrom), (vi v12.fTo), (vi v12.fAt)], .bx k5_0_b [(.string k5_0.fClass), (.string k5_0.fName), (vi k5_0.fArgs), (vi k5_0.fSlots), (vi k5_0.fFrame), k5_0_w1, k5_0_w2]]) (k5_0_F1 : FzS G_api_Ins.rep 4 g k5_0_w1 k5_0.fCode) (k5_0_F2 : FzS G_api_Guard.rep 3 g k5_0_w2 k5_0.fGuards) (sbk5 : Sub gbk5 g) (Hk5 : ∀ {qy0 : Int} {g2 h2 : AH}, k5M qy0 = some r → Sub gbk5 g2 → Sep c g2 h2 [.bx k5_0_b [(.string k5_0.fClass), (.string k5_0.fName), (vi k5_0.fArgs), (vi k5_0.fSlots), (vi k5_0.fFrame), k5_0_w1, k5_0_w2]] → k5 (vi qy0) h2) (H : cosignerref08_Plain_H c R r) : g_cosignerref08_Plain_P2 w0 E R (mkP v12_b 0) (vi v4) (vi y6) k5 (.bool v27) h := by
  unfold g_cosignerref08_Plain_P2
  unfold g_cosignerref08_Plain_P2_M at M
  cases hc : v27
  · have M := cond_F hc M
    refine gd_hit rfl ?_
    refine WP_fieldAddr.2 ?_
    refine gd_hit rfl ?_
    refine S.bld1 0 rfl rfl ?_
    refine gd_hit rfl ?_
    refine gd_hit rfl ?_
    refine WP_sub.2 ?_
    refine gd_hit rfl ?_
    obtain ⟨c_34, hx_35, M⟩ := bind_some M
    refine cosignerref08_in_lf hx_35 S.sub S.ok (fun _ h  S1  => ?_)
    have S := S.call0 S1
    refine gd_hit rfl ?_
    refine WP_notB.2 ?_
    refine WP_pick.2 ?_
    have S := S.f1
    have S := S.t1
    exact g_cosignerref08_Plain_P1_lf M S k5_0_F1 k5_0_F2 sbk5 Hk5 H
  · have M := cond_T hc M
    refine gd_mis (by decide) ?_
    refine gd_mis (by decide) ?_
    refine gd_mis (by decide) ?_
    refine gd_mis (by decide) ?_
    refine gd_mis (by decide) ?_
    refine gd_mis (by decide) ?_
    refine WP_pick.2 ?_
    have S := S.f1
    have S := S.t1
    exact g_cosignerref08_Plain_P1_lf M S k5_0_F1 k5_0_F2 sbk5 Hk5 H
theorem g_cosignerref08_Plain_P3_lf {w0 : World} {c : Cx} {g h : AH} {E R : Value → W} {r : Bool} {N : Nat} {v12 : G_api_Guard} {v4 y6 : Int} {v22 : Bool} {k5_0 : G_api_Unit} {v12_b k5_0_b : Nat} {k5_0_w1 k5_0_w2 : Value} {k5 : Value → W} {k5M : Int → Option Bool} {gbk5 : AH} (M : g_cosignerref08_Plain_P3_M N v12 v4 y6 v22 k5_0 k5M = some r) (S : Sep c g h [.bx v12_b [(vi v12.fFrom), (vi v12.fTo), (vi v12.fAt)], .bx k5_0_b [(.string k5_0.fClass), (.string k5_0.fName), (vi k5_0.fArgs), (vi k5_0.fSlots), (vi k5_0.fFrame), k5_0_w1, k5_0_w2]]) (k5_0_F1 : FzS G_api_Ins.rep 4 g k5_0_w1 k5_0.fCode) (k5_0_F2 : FzS G_api_Guard.rep 3 g k5_0_w2 k5_0.fGuards) (sbk5 : Sub gbk5 g) (Hk5 : ∀ {qy0 : Int} {g2 h2 : AH}, k5M qy0 = some r → Sub gbk5 g2 → Sep c g2 h2 [.bx k5_0_b [(.string k5_0.fClass), (.string k5_0.fName), (vi k5_0.fArgs), (vi k5_0.fSlots), (vi k5_0.fFrame), k5_0_w1, k5_0_w2]] → k5 (vi qy0) h2) (H : cosignerref08_Plain_H c R r) : g_cosignerref08_Plain_P3 w0 E R (mkP v12_b 0) (vi v4) (vi y6) k5 (.bool v22) h := by
  unfold g_cosignerref08_Plain_P3
  unfold g_cosignerref08_Plain_P3_M at M
  cases hc : v22
  · have M := cond_F hc M
    refine gd_hit rfl ?_
    refine WP_fieldAddr.2 ?_
    refine gd_hit rfl ?_
    refine S.bld1 0 rfl rfl ?_
    refine gd_hit rfl ?_
    refine gd_hit rfl ?_
    refine WP_gtr.2 ?_
    refine WP_pick.2 ?_
    exact g_cosignerref08_Plain_P2_lf M S k5_0_F1 k5_0_F2 sbk5 Hk5 H
  · have M := cond_T hc M
    refine gd_mis (by decide) ?_
    refine gd_mis (by decide) ?_
    refine gd_mis (by decide) ?_
    refine gd_mis (by decide) ?_
    refine WP_pick.2 ?_
    exact g_cosignerref08_Plain_P2_lf M S k5_0_F1 k5_0_F2 sbk5 Hk5 H
theorem g_cosignerref08_Plain_J5_lf {w0 : World} {c : Cx} {g h : AH} {E R : Value → W} {r : Bool} {N : Nat} {v1 : G_api_Unit} {y6 v4 : Int} {v1_b : Nat} {v1_w1 v1_w2 : Value} {k5 : Value → W} {k5M : Int → Option Bool} {gbk5 : AH} (M : g_cosignerref08_Plain_J5_M N v1 y6 v4 k5M = some r) (S : Sep c g h [.bx v1_b [(.string v1.fClass), (.string v1.fName), (vi v1.fArgs), (vi v1.fSlots), (vi v1.fFrame), v1_w1, v1_w2]]) (v1_F1 : FzS G_api_Ins.rep 4 g v1_w1 v1.fCode) (v1_F2 : FzS G_api_Guard.rep 3 g v1_w2 v1.fGuards) (sbk5 : Sub gbk5 g) (Hk5 : ∀ {qy0 : Int} {g2 h2 : AH}, k5M qy0 = some r → Sub gbk5 g2 → Sep c g2 h2 [.bx v1_b [(.string v1.fClass), (.string v1.fName), (vi v1.fArgs), (vi v1.fSlots), (vi v1.fFrame), v1_w1, v1_w2]] → k5 (vi qy0) h2) (H : cosignerref08_Plain_H c R r) : g_cosignerref08_Plain_J5 w0 E R (mkP v1_b 0) (vi y6) (vi v4) k5 h := by
  unfold g_cosignerref08_Plain_J5
  unfold g_cosignerref08_Plain_J5_M at M
  refine WP_fieldAddr.2 ?_
  refine S.bld1 0 rfl rfl ?_
  obtain ⟨c_27, hx_28, M⟩ := bind_some M
  refine FzS.idx v1_F2 hx_28 (fun b_29 o_30 vs E_32 r_31 rp => ?_)
  cases rp
  refine S.fldN r_31 rfl (by decide) ?_
  refine S.alloc (l := [(vi 0), (vi 0), (vi 0)]) (one_cons rfl (one_cons rfl (one_cons rfl rfl))) (fun b_33 h S => ?_)
  refine S.bst [(vi c_27.fFrom), (vi c_27.fTo), (vi c_27.fAt)] [(vi c_27.fFrom), (vi c_27.fTo), (vi c_27.fAt)] rfl rfl (one_cons rfl (one_cons rfl (one_cons rfl rfl))) (Nat.le_of_ble_eq_true rfl) rfl (fun h S => ?_)
  refine WP_fieldAddr.2 ?_
  refine S.bld1 0 rfl rfl ?_
  refine WP_lss.2 ?_
  cases hc : (decide (c_27.fFrom < 0))
  · have M := cond_F hc M
    refine gd_hit rfl ?_
    refine WP_fieldAddr.2 ?_
    refine gd_hit rfl ?_
    refine S.bld1 0 rfl rfl ?_
    refine gd_hit rfl ?_
    refine WP_fieldAddr.2 ?_
    refine gd_hit rfl ?_
    refine S.bld1 0 rfl rfl ?_
    refine gd_hit rfl ?_
    refine WP_geq.2 ?_
    refine WP_pick.2 ?_
    exact g_cosignerref08_Plain_P3_lf M S v1_F1 v1_F2 sbk5 Hk5 H
  · have M := cond_T hc M
    refine gd_mis (by decide) ?_
    refine gd_mis (by decide) ?_
    refine gd_mis (by decide) ?_
    refine gd_mis (by decide) ?_
    refine gd_mis (by decide) ?_
    refine WP_pick.2 ?_
    exact g_cosignerref08_Plain_P3_lf M S v1_F1 v1_F2 sbk5 Hk5 H
theorem g_cosignerref08_Plain_J3_lf {w0 : World} {c : Cx} {g h : AH} {E R : Value → W} {r : Bool} {N : Nat}   (M : g_cosignerref08_Plain_J3_M N  = some r) (S : Sep c g h [])   (H : cosignerref08_Plain_H c R r) : g_cosignerref08_Plain_J3 w0 E R  h := by
  unfold g_cosignerref08_Plain_J3
  unfold g_cosignerref08_Plain_J3_M at M
  cases M
  exact H _ _  S.drops
theorem g_cosignerref08_Plain_L4_lf {w0 : World} {c : Cx} {g h : AH} {E R : Value → W} {r : Bool} {N : Nat} {v1 : G_api_Unit} {v4 y6 : Int} {v1_b : Nat} {v1_w1 v1_w2 : Value} {k5 : Value → W} {k5M : Int → Option Bool} {gbk5 : AH} (M : g_cosignerref08_Plain_L4_M N v1 v4 y6 k5M = some r) (S : Sep c g h [.bx v1_b [(.string v1.fClass), (.string v1.fName), (vi v1.fArgs), (vi v1.fSlots), (vi v1.fFrame), v1_w1, v1_w2]]) (v1_F1 : FzS G_api_Ins.rep 4 g v1_w1 v1.fCode) (v1_F2 : FzS G_api_Guard.rep 3 g v1_w2 v1.fGuards) (sbk5 : Sub gbk5 g) (Hk5 : ∀ {qy0 : Int} {g2 h2 : AH}, k5M qy0 = some r → Sub gbk5 g2 → Sep c g2 h2 [.bx v1_b [(.string v1.fClass), (.string v1.fName), (vi v1.fArgs), (vi v1.fSlots), (vi v1.fFrame), v1_w1, v1_w2]] → k5 (vi qy0) h2) (H : cosignerref08_Plain_H c R r) : g_cosignerref08_Plain_L4 w0 E R (mkP v1_b 0) (vi v4) k5 (vi y6) h := by
  unfold g_cosignerref08_Plain_L4
  unfold g_cosignerref08_Plain_L4_M at M
  refine WP_fieldAddr.2 ?_
  refine S.bld1 0 rfl rfl ?_
  refine v1_F2.len ?_
  refine WP_lss.2 ?_
  refine br_lf (fun hc => ?_) (fun hc => ?_)
  · have M := cond_T hc M
    exact g_cosignerref08_Plain_J5_lf M S v1_F1 v1_F2 sbk5 Hk5 H
  · have M := cond_F hc M
    have S := S.t0
    exact g_cosignerref08_Plain_J3_lf M S  H
theorem g_cosignerref08_Plain_L4_li {w0 : World} {c : Cx} {E R : Value → W} {r : Bool} {N : Nat} {v1 : G_api_Unit} {v4 : Int} {v1_b : Nat} {v1_w1 v1_w2 : Value}   (H : cosignerref08_Plain_H c R r) : ∀ (n : Nat) {y6 : Int} {g h : AH}, g_cosignerref08_Plain_L4_I N v1 v4 n y6 = some r → Sep c g h [.bx v1_b [(.string v1.fClass), (.string v1.fName), (vi v1.fArgs), (vi v1.fSlots), (vi v1.fFrame), v1_w1, v1_w2]] → FzS G_api_Ins.rep 4 g v1_w1 v1.fCode → FzS G_api_Guard.rep 3 g v1_w2 v1.fGuards → LPn (α := Value) (fun k a => g_cosignerref08_Plain_L4 w0 E R (mkP v1_b 0) (vi v4) k a) n (vi y6) h := by
  intro n
  induction n with
  | zero =>
    intro y6  g h M S v1_F1 v1_F2
    unfold g_cosignerref08_Plain_L4_I at M; cases M
  | succ n ih =>
    intro y6  g h M S v1_F1 v1_F2
    exact g_cosignerref08_Plain_L4_lf M S v1_F1 v1_F2  (Sub.refl g) (fun M2 sub S2  => ih M2 S2 (FzS.mono v1_F1 G_api_Ins.mono sub) (FzS.mono v1_F2 G_api_Guard.mono sub) ) H
theorem g_cosignerref08_Plain_J2_lf {w0 : World} {c : Cx} {g h : AH} {E R : Value → W} {r : Bool} {N : Nat} {v1 : G_api_Unit} {v4 : Int} {v1_b : Nat} {v1_w1 v1_w2 : Value}  (M : g_cosignerref08_Plain_J2_M N v1 v4 = some r) (S : Sep c g h [.bx v1_b [(.string v1.fClass), (.string v1.fName), (vi v1.fArgs), (vi v1.fSlots), (vi v1.fFrame), v1_w1, v1_w2]]) (v1_F1 : FzS G_api_Ins.rep 4 g v1_w1 v1.fCode) (v1_F2 : FzS G_api_Guard.rep 3 g v1_w2 v1.fGuards)  (H : cosignerref08_Plain_H c R r) : g_cosignerref08_Plain_J2 w0 E R (mkP v1_b 0) (vi v4) h := by
  unfold g_cosignerref08_Plain_J2
  unfold g_cosignerref08_Plain_J2_M at M
  exact ⟨N, g_cosignerref08_Plain_L4_li  H _ M S v1_F1 v1_F2 ⟩
theorem g_cosignerref08_Plain_L7_lf {w0 : World} {c : Cx} {g h : AH} {E R : Value → W} {r : Bool} {N : Nat} {v4 : Int} {v1 : G_api_Unit} {y40 : Int} {v1_b : Nat} {v1_w1 v1_w2 : Value} {k39 : Value → W} {k39M : Int → Option Bool} {gbk39 : AH} (M : g_cosignerref08_Plain_L7_M N v4 v1 y40 k39M = some r) (S : Sep c g h [.bx v1_b [(.string v1.fClass), (.string v1.fName), (vi v1.fArgs), (vi v1.fSlots), (vi v1.fFrame), v1_w1, v1_w2]]) (v1_F1 : FzS G_api_Ins.rep 4 g v1_w1 v1.fCode) (v1_F2 : FzS G_api_Guard.rep 3 g v1_w2 v1.fGuards) (sbk39 : Sub gbk39 g) (Hk39 : ∀ {qy0 : Int} {g2 h2 : AH}, k39M qy0 = some r → Sub gbk39 g2 → Sep c g2 h2 [.bx v1_b [(.string v1.fClass), (.string v1.fName), (vi v1.fArgs), (vi v1.fSlots), (vi v1.fFrame), v1_w1, v1_w2]] → k39 (vi qy0) h2) (H : cosignerref08_Plain_H c R r) : g_cosignerref08_Plain_L7 w0 E R (vi v4) (mkP v1_b 0) k39 (vi y40) h := by
  unfold g_cosignerref08_Plain_L7
  unfold g_cosignerref08_Plain_L7_M at M
  refine WP_lss.2 ?_
  refine br_lf (fun hc => ?_) (fun hc => ?_)
  · have M := cond_T hc M
    exact g_cosignerref08_Plain_J8_lf M S v1_F1 v1_F2 sbk39 Hk39 H
  · have M := cond_F hc M
    exact g_cosignerref08_Plain_J2_lf M S v1_F1 v1_F2 H
theorem g_cosignerref08_Plain_L7_li {w0 : World} {c : Cx} {E R : Value → W} {r : Bool} {N : Nat} {v4 : Int} {v1 : G_api_Unit} {v1_b : Nat} {v1_w1 v1_w2 : Value}   (H : cosignerref08_Plain_H c R r) : ∀ (n : Nat) {y40 : Int} {g h : AH}, g_cosignerref08_Plain_L7_I N v4 v1 n y40 = some r → Sep c g h [.bx v1_b [(.string v1.fClass), (.string v1.fName), (vi v1.fArgs), (vi v1.fSlots), (vi v1.fFrame), v1_w1, v1_w2]] → FzS G_api_Ins.rep 4 g v1_w1 v1.fCode → FzS G_api_Guard.rep 3 g v1_w2 v1.fGuards → LPn (α := Value) (fun k a => g_cosignerref08_Plain_L7 w0 E R (vi v4) (mkP v1_b 0) k a) n (vi y40) h := by
  intro n
  induction n with
  | zero =>
    intro y40  g h M S v1_F1 v1_F2
    unfold g_cosignerref08_Plain_L7_I at M; cases M
  | succ n ih =>
    intro y40  g h M S v1_F1 v1_F2
    exact g_cosignerref08_Plain_L7_lf M S v1_F1 v1_F2  (Sub.refl g) (fun M2 sub S2  => ih M2 S2 (FzS.mono v1_F1 G_api_Ins.mono sub) (FzS.mono v1_F2 G_api_Guard.mono sub) ) H
theorem g_cosignerref08_Plain_J1_lf {w0 : World} {c : Cx} {g h : AH} {E R : Value → W} {r : Bool} {N : Nat} {v4 : Int} {v1 : G_api_Unit} {v1_b : Nat} {v1_w1 v1_w2 : Value}  (M : g_cosignerref08_Plain_J1_M N v4 v1 = some r) (S : Sep c g h [.bx v1_b [(.string v1.fClass), (.string v1.fName), (vi v1.fArgs), (vi v1.fSlots), (vi v1.fFrame), v1_w1, v1_w2]]) (v1_F1 : FzS G_api_Ins.rep 4 g v1_w1 v1.fCode) (v1_F2 : FzS G_api_Guard.rep 3 g v1_w2 v1.fGuards)  (H : cosignerref08_Plain_H c R r) : g_cosignerref08_Plain_J1 w0 E R (vi v4) (mkP v1_b 0) h := by
  unfold g_cosignerref08_Plain_J1
  unfold g_cosignerref08_Plain_J1_M at M
  exact ⟨N, g_cosignerref08_Plain_L7_li  H _ M S v1_F1 v1_F2 ⟩
theorem g_cosignerref08_Plain_P5_lf {w0 : World} {c : Cx} {g h : AH} {E R : Value → W} {r : Bool} {N : Nat} {v4 : Int} {v1 : G_api_Unit} {v86 : Bool} {v1_b : Nat} {v1_w1 v1_w2 : Value}  (M : g_cosignerref08_Plain_P5_M N v4 v1 v86 = some r) (S : Sep c g h [.bx v1_b [(.string v1.fClass), (.string v1.fName), (vi v1.fArgs), (vi v1.fSlots), (vi v1.fFrame), v1_w1, v1_w2]]) (v1_F1 : FzS G_api_Ins.rep 4 g v1_w1 v1.fCode) (v1_F2 : FzS G_api_Guard.rep 3 g v1_w2 v1.fGuards)  (H : cosignerref08_Plain_H c R r) : g_cosignerref08_Plain_P5 w0 E R (vi v4) (mkP v1_b 0) (.bool v86) h := by
  unfold g_cosignerref08_Plain_P5
  unfold g_cosignerref08_Plain_P5_M at M
  refine br_lf (fun hc => ?_) (fun hc => ?_)
  · have M := cond_T hc M
    cases M
    exact H _ _  S.drops
  · have M := cond_F hc M
    exact g_cosignerref08_Plain_J1_lf M S v1_F1 v1_F2 H
theorem g_cosignerref08_Plain_P6_lf {w0 : World} {c : Cx} {g h : AH} {E R : Value → W} {r : Bool} {N : Nat} {v1 : G_api_Unit} {v4 : Int} {v81 : Bool} {v1_b : Nat} {v1_w1 v1_w2 : Value}  (M : g_cosignerref08_Plain_P6_M N v1 v4 v81 = some r) (S : Sep c g h [.bx v1_b [(.string v1.fClass), (.string v1.fName), (vi v1.fArgs), (vi v1.fSlots), (vi v1.fFrame), v1_w1, v1_w2]]) (v1_F1 : FzS G_api_Ins.rep 4 g v1_w1 v1.fCode) (v1_F2 : FzS G_api_Guard.rep 3 g v1_w2 v1.fGuards)  (H : cosignerref08_Plain_H c R r) : g_cosignerref08_Plain_P6 w0 E R (mkP v1_b 0) (vi v4) (.bool v81) h := by
  unfold g_cosignerref08_Plain_P6
  unfold g_cosignerref08_Plain_P6_M at M
  cases hc : v81
  · have M := cond_F hc M
    refine gd_hit rfl ?_
    refine WP_fieldAddr.2 ?_
    refine gd_hit rfl ?_
    refine S.bld1 0 rfl rfl ?_
    refine gd_hit rfl ?_
    obtain ⟨c_6, hx_7, M⟩ := bind_some M
    refine cosignerref08_in_lf hx_7 S.sub S.ok (fun _ h  S1  => ?_)
    have S := S.call0 S1
    refine gd_hit rfl ?_
    refine WP_notB.2 ?_
    refine WP_pick.2 ?_
    exact g_cosignerref08_Plain_P5_lf M S v1_F1 v1_F2 H
  · have M := cond_T hc M
    refine gd_mis (by decide) ?_
    refine gd_mis (by decide) ?_
    refine gd_mis (by decide) ?_
    refine gd_mis (by decide) ?_
    refine WP_pick.2 ?_
    exact g_cosignerref08_Plain_P5_lf M S v1_F1 v1_F2 H
theorem g_cosignerref08_Plain_P7_lf {w0 : World} {c : Cx} {g h : AH} {E R : Value → W} {r : Bool} {N : Nat} {v1 : G_api_Unit} {v4 : Int} {v76 : Bool} {v1_b : Nat} {v1_w1 v1_w2 : Value}  (M : g_cosignerref08_Plain_P7_M N v1 v4 v76 = some r) (S : Sep c g h [.bx v1_b [(.string v1.fClass), (.string v1.fName), (vi v1.fArgs), (vi v1.fSlots), (vi v1.fFrame), v1_w1, v1_w2]]) (v1_F1 : FzS G_api_Ins.rep 4 g v1_w1 v1.fCode) (v1_F2 : FzS G_api_Guard.rep 3 g v1_w2 v1.fGuards)  (H : cosignerref08_Plain_H c R r) : g_cosignerref08_Plain_P7 w0 E R (mkP v1_b 0) (vi v4) (.bool v76) h := by
  unfold g_cosignerref08_Plain_P7
  unfold g_cosignerref08_Plain_P7_M at M
  cases hc : v76
  · have M := cond_F hc M
    refine gd_hit rfl ?_
    refine WP_fieldAddr.2 ?_
    refine gd_hit rfl ?_
    refine S.bld1 0 rfl rfl ?_
    refine gd_hit rfl ?_
    obtain ⟨c_4, hx_5, M⟩ := bind_some M
    refine cosignerref08_in_lf hx_5 S.sub S.ok (fun _ h  S1  => ?_)
    have S := S.call0 S1
    refine gd_hit rfl ?_
    refine WP_notB.2 ?_
    refine WP_pick.2 ?_
    exact g_cosignerref08_Plain_P6_lf M S v1_F1 v1_F2 H
  · have M := cond_T hc M
    refine gd_mis (by decide) ?_
    refine gd_mis (by decide) ?_
    refine gd_mis (by decide) ?_
    refine gd_mis (by decide) ?_
    refine WP_pick.2 ?_
    exact g_cosignerref08_Plain_P6_lf M S v1_F1 v1_F2 H
theorem cosignerref08_Plain_lf {w0 : World} {g h : AH} {Q : CR → AH → Prop} {r : Bool} {N : Nat} {x0 : G_api_Unit} {x0_w1 x0_w2 : Value} (M : cosignerref08_Plain_M N x0 = some r) (sg : Sub g h) (ok : h.Ok) (x0_F1 : FzS G_api_Ins.rep 4 g x0_w1 x0.fCode) (x0_F2 : FzS G_api_Guard.rep 3 g x0_w2 x0.fGuards) (H : cosignerref08_Plain_H ⟨g, h, []⟩ (fun v => Q (.ret v)) r) : WF PP w0 id_cosignerref08_Plain [(.agg ⟨[(.string x0.fClass), (.string x0.fName), (vi x0.fArgs), (vi x0.fSlots), (vi x0.fFrame), x0_w1, x0_w2]⟩)] h Q := by
  refine g_cosignerref08_Plain_wp _ ?_
  have S := Sep.start sg ok
  unfold g_cosignerref08_Plain_F
  unfold cosignerref08_Plain_M at M
  refine S.box [(.string x0.fClass), (.string x0.fName), (vi x0.fArgs), (vi x0.fSlots), (vi x0.fFrame), x0_w1, x0_w2] rfl (one_cons rfl (one_cons rfl (one_cons rfl (one_cons rfl (one_cons rfl (one_cons x0_F1.one (one_cons x0_F2.one rfl))))))) (fun b_1 h S => ?_)
  refine WP_fieldAddr.2 ?_
  refine S.bld1 0 rfl rfl ?_
  refine x0_F1.len ?_
  obtain ⟨c_2, hx_3, M⟩ := bind_some M
  refine cosignerref08_in_lf hx_3 S.sub S.ok (fun _ h  S1  => ?_)
  have S := S.call0 S1
  refine WP_notB.2 ?_
  cases hc : (!c_2)
  · have M := cond_F hc M
    refine gd_hit rfl ?_
    refine WP_fieldAddr.2 ?_
    refine gd_hit rfl ?_
    refine S.bld1 0 rfl rfl ?_
    refine gd_hit rfl ?_
    refine x0_F2.len ?_
    refine gd_hit rfl ?_
    refine WP_gtr.2 ?_
    refine WP_pick.2 ?_
    exact g_cosignerref08_Plain_P7_lf M S x0_F1 x0_F2 H
  · have M := cond_T hc M
    refine gd_mis (by decide) ?_
    refine gd_mis (by decide) ?_
    refine gd_mis (by decide) ?_
    refine gd_mis (by decide) ?_
    refine WP_pick.2 ?_
    exact g_cosignerref08_Plain_P7_lf M S x0_F1 x0_F2 H
def g_cosignerref08_SameInts_J5_M (N : Nat) (y2 : Int) (k1M : Int → Option Bool) : Option Bool :=
 k1M (wrapQ .i64 (y2 + 1))
def g_cosignerref08_SameInts_J4_M (N : Nat) (x0 : List Int) (y2 : Int) (x1 : List Int) (k1M : Int → Option Bool) : Option Bool :=
(ix x0 y2).bind fun c_1 =>
(ix x1 y2).bind fun c_7 =>
 bif (!decide (c_1 = c_7)) then (
 some false) else (
 g_cosignerref08_SameInts_J5_M N y2 k1M)
def g_cosignerref08_SameInts_J2_M (N : Nat)   : Option Bool :=
 some true
def g_cosignerref08_SameInts_L3_M (N : Nat) (x0 : List Int) (x1 : List Int) (y2 : Int) (k1M : Int → Option Bool) : Option Bool :=
 bif (decide (y2 < (x0.length : Int))) then (
 g_cosignerref08_SameInts_J4_M N x0 y2 x1 k1M) else (
 g_cosignerref08_SameInts_J2_M N )
def g_cosignerref08_SameInts_L3_I (N : Nat) (x0 : List Int) (x1 : List Int)  : Nat → Int → Option Bool
  | 0, _ => none
  | n + 1, y2 => g_cosignerref08_SameInts_L3_M N x0 x1 y2  (fun qy0 => g_cosignerref08_SameInts_L3_I N x0 x1 n qy0)
def g_cosignerref08_SameInts_J1_M (N : Nat) (x0 : List Int) (x1 : List Int)  : Option Bool :=
 g_cosignerref08_SameInts_L3_I N x0 x1 N 0
def cosignerref08_SameInts_M (N : Nat) (x0 : List Int) (x1 : List Int) : Option Bool :=
 bif (!decide ((x0.length : Int) = (x1.length : Int))) then (
 some false) else (
 g_cosignerref08_SameInts_J1_M N x0 x1)
abbrev cosignerref08_SameInts_H (c : Cx) (R : Value → W) (r : Bool) : Prop := ∀ (g' h' : AH), Sep c g' h' [] → R (.bool r) h'
theorem g_cosignerref08_SameInts_J5_lf {w0 : World} {c : Cx} {g h : AH} {E R : Value → W} {r : Bool} {N : Nat} {y2 : Int} {k1 : Value → W} {k1M : Int → Option Bool} {gbk1 : AH} (M : g_cosignerref08_SameInts_J5_M N y2 k1M = some r) (S : Sep c g h [])  (sbk1 : Sub gbk1 g) (Hk1 : ∀ {qy0 : Int} {g2 h2 : AH}, k1M qy0 = some r → Sub gbk1 g2 → Sep c g2 h2 [] → k1 (vi qy0) h2) (H : cosignerref08_SameInts_H c R r) : g_cosignerref08_SameInts_J5 w0 E R (vi y2) k1 h := by
  unfold g_cosignerref08_SameInts_J5
  unfold g_cosignerref08_SameInts_J5_M at M
  refine WP_add.2 ?_
  exact Hk1 M sbk1 S
theorem g_cosignerref08_SameInts_J4_lf {w0 : World} {c : Cx} {g h : AH} {E R : Value → W} {r : Bool} {N : Nat} {x0 : List Int} {y2 : Int} {x1 : List Int} {x0_v x1_v : Value} {k1 : Value → W} {k1M : Int → Option Bool} {gbk1 : AH} (M : g_cosignerref08_SameInts_J4_M N x0 y2 x1 k1M = some r) (S : Sep c g h []) (x0_F : FzS (rI .i64) 1 g x0_v x0) (x1_F : FzS (rI .i64) 1 g x1_v x1) (sbk1 : Sub gbk1 g) (Hk1 : ∀ {qy0 : Int} {g2 h2 : AH}, k1M qy0 = some r → Sub gbk1 g2 → Sep c g2 h2 [] → k1 (vi qy0) h2) (H : cosignerref08_SameInts_H c R r) : g_cosignerref08_SameInts_J4 w0 E R x0_v (vi y2) x1_v k1 h := by
  unfold g_cosignerref08_SameInts_J4
  unfold g_cosignerref08_SameInts_J4_M at M
  obtain ⟨c_1, hx_2, M⟩ := bind_some M
  refine FzS.idx x0_F hx_2 (fun b_3 o_4 vs E_6 r_5 rp => ?_)
  cases rp
  refine S.fld1 (r_5 0 _ rfl) ?_
  obtain ⟨c_7, hx_8, M⟩ := bind_some M
  refine FzS.idx x1_F hx_8 (fun b_9 o_10 vs E_12 r_11 rp => ?_)
  cases rp
  refine S.fld1 (r_11 0 _ rfl) ?_
  refine WP_neq.2 ?_
  refine br_lf (fun hc => ?_) (fun hc => ?_)
  · have M := cond_T hc M
    cases M
    exact H _ _  S.drops
  · have M := cond_F hc M
    exact g_cosignerref08_SameInts_J5_lf M S sbk1 Hk1 H
theorem g_cosignerref08_SameInts_J2_lf {w0 : World} {c : Cx} {g h : AH} {E R : Value → W} {r : Bool} {N : Nat}   (M : g_cosignerref08_SameInts_J2_M N  = some r) (S : Sep c g h [])   (H : cosignerref08_SameInts_H c R r) : g_cosignerref08_SameInts_J2 w0 E R  h := by
  unfold g_cosignerref08_SameInts_J2
  unfold g_cosignerref08_SameInts_J2_M at M
  cases M
  exact H _ _  S.drops
theorem g_cosignerref08_SameInts_L3_lf {w0 : World} {c : Cx} {g h : AH} {E R : Value → W} {r : Bool} {N : Nat} {x0 x1 : List Int} {y2 : Int} {x0_v x1_v : Value} {k1 : Value → W} {k1M : Int → Option Bool} {gbk1 : AH} (M : g_cosignerref08_SameInts_L3_M N x0 x1 y2 k1M = some r) (S : Sep c g h []) (x0_F : FzS (rI .i64) 1 g x0_v x0) (x1_F : FzS (rI .i64) 1 g x1_v x1) (sbk1 : Sub gbk1 g) (Hk1 : ∀ {qy0 : Int} {g2 h2 : AH}, k1M qy0 = some r → Sub gbk1 g2 → Sep c g2 h2 [] → k1 (vi qy0) h2) (H : cosignerref08_SameInts_H c R r) : g_cosignerref08_SameInts_L3 w0 E R x0_v x1_v k1 (vi y2) h := by
  unfold g_cosignerref08_SameInts_L3
  unfold g_cosignerref08_SameInts_L3_M at M
  refine x0_F.len ?_
  refine WP_lss.2 ?_
  refine br_lf (fun hc => ?_) (fun hc => ?_)
  · have M := cond_T hc M
    exact g_cosignerref08_SameInts_J4_lf M S x0_F x1_F sbk1 Hk1 H
  · have M := cond_F hc M
    exact g_cosignerref08_SameInts_J2_lf M S  H
theorem g_cosignerref08_SameInts_L3_li {w0 : World} {c : Cx} {E R : Value → W} {r : Bool} {N : Nat} {x0 x1 : List Int} {x0_v x1_v : Value}   (H : cosignerref08_SameInts_H c R r) : ∀ (n : Nat) {y2 : Int} {g h : AH}, g_cosignerref08_SameInts_L3_I N x0 x1 n y2 = some r → Sep c g h [] → FzS (rI .i64) 1 g x0_v x0 → FzS (rI .i64) 1 g x1_v x1 → LPn (α := Value) (fun k a => g_cosignerref08_SameInts_L3 w0 E R x0_v x1_v k a) n (vi y2) h := by
  intro n
  induction n with
  | zero =>
    intro y2  g h M S x0_F x1_F
    unfold g_cosignerref08_SameInts_L3_I at M; cases M
  | succ n ih =>
    intro y2  g h M S x0_F x1_F
    exact g_cosignerref08_SameInts_L3_lf M S x0_F x1_F  (Sub.refl g) (fun M2 sub S2  => ih M2 S2 (FzS.mono x0_F (mono_I .i64) sub) (FzS.mono x1_F (mono_I .i64) sub) ) H
theorem g_cosignerref08_SameInts_J1_lf {w0 : World} {c : Cx} {g h : AH} {E R : Value → W} {r : Bool} {N : Nat} {x0 x1 : List Int} {x0_v x1_v : Value}  (M : g_cosignerref08_SameInts_J1_M N x0 x1 = some r) (S : Sep c g h []) (x0_F : FzS (rI .i64) 1 g x0_v x0) (x1_F : FzS (rI .i64) 1 g x1_v x1)  (H : cosignerref08_SameInts_H c R r) : g_cosignerref08_SameInts_J1 w0 E R x0_v x1_v h := by
  unfold g_cosignerref08_SameInts_J1
  unfold g_cosignerref08_SameInts_J1_M at M
  exact ⟨N, g_cosignerref08_SameInts_L3_li  H _ M S x0_F x1_F ⟩
theorem cosignerref08_SameInts_lf {w0 : World} {g h : AH} {Q : CR → AH → Prop} {r : Bool} {N : Nat} {x0 x1 : List Int} {x0_v x1_v : Value} (M : cosignerref08_SameInts_M N x0 x1 = some r) (sg : Sub g h) (ok : h.Ok) (x0_F : FzS (rI .i64) 1 g x0_v x0) (x1_F : FzS (rI .i64) 1 g x1_v x1) (H : cosignerref08_SameInts_H ⟨g, h, []⟩ (fun v => Q (.ret v)) r) : WF PP w0 id_cosignerref08_SameInts [x0_v, x1_v] h Q := by
  refine g_cosignerref08_SameInts_wp _ _ ?_
  have S := Sep.start sg ok
  unfold g_cosignerref08_SameInts_F
  unfold cosignerref08_SameInts_M at M
  refine x0_F.len ?_
  refine x1_F.len ?_
  refine WP_neq.2 ?_
  refine br_lf (fun hc => ?_) (fun hc => ?_)
  · have M := cond_T hc M
    cases M
    exact H _ _  S.drops
  · have M := cond_F hc M
    exact g_cosignerref08_SameInts_J1_lf M S x0_F x1_F H
def g_cosignerref08_SameUnits_J9_M (N : Nat) (y20 : Int) (k19_0 : G_api_Unit) (k19_1 : G_api_Unit) (k19M : Int → Option Bool) : Option Bool :=
 k19M (wrapQ .i64 (y20 + 1))
def g_cosignerref08_SameUnits_J8_M (N : Nat) (v1 : G_api_Unit) (y20 : Int) (v2 : G_api_Unit) (k19M : Int → Option Bool) : Option Bool :=
(ix v1.fCode y20).bind fun c_3 =>
(ix v2.fCode y20).bind fun c_9 =>
 bif ((decide (c_3.fOp = c_9.fOp) && (decide (c_3.fA = c_9.fA) && (decide (c_3.fB = c_9.fB) && (decide (c_3.fC = c_9.fC) && true)))) != true) then (
 some false) else (
 g_cosignerref08_SameUnits_J9_M N y20 v1 v2 k19M)
def g_cosignerref08_SameUnits_J6_M (N : Nat) (y4 : Int) (k3_0 : G_api_Unit) (k3_1 : G_api_Unit) (k3M : Int → Option Bool) : Option Bool :=
 k3M (wrapQ .i64 (y4 + 1))
def g_cosignerref08_SameUnits_J5_M (N : Nat) (v1 : G_api_Unit) (y4 : Int) (v2 : G_api_Unit) (k3M : Int → Option Bool) : Option Bool :=
(ix v1.fGuards y4).bind fun c_15 =>
(ix v2.fGuards y4).bind fun c_21 =>
 bif ((decide (c_15.fFrom = c_21.fFrom) && (decide (c_15.fTo = c_21.fTo) && (decide (c_15.fAt = c_21.fAt) && true))) != true) then (
 some false) else (
 g_cosignerref08_SameUnits_J6_M N y4 v1 v2 k3M)
def g_cosignerref08_SameUnits_J3_M (N : Nat)   : Option Bool :=
 some true
def g_cosignerref08_SameUnits_L4_M (N : Nat) (v1 : G_api_Unit) (v2 : G_api_Unit) (y4 : Int) (k3M : Int → Option Bool) : Option Bool :=
 bif (decide (y4 < (v1.fGuards.length : Int))) then (
 g_cosignerref08_SameUnits_J5_M N v1 y4 v2 k3M) else (
 g_cosignerref08_SameUnits_J3_M N )
def g_cosignerref08_SameUnits_L4_I (N : Nat) (v1 : G_api_Unit) (v2 : G_api_Unit)  : Nat → Int → Option Bool
  | 0, _ => none
  | n + 1, y4 => g_cosignerref08_SameUnits_L4_M N v1 v2 y4  (fun qy0 => g_cosignerref08_SameUnits_L4_I N v1 v2 n qy0)
def g_cosignerref08_SameUnits_J2_M (N : Nat) (v1 : G_api_Unit) (v2 : G_api_Unit)  : Option Bool :=
 g_cosignerref08_SameUnits_L4_I N v1 v2 N 0
def g_cosignerref08_SameUnits_L7_M (N : Nat) (v1 : G_api_Unit) (v2 : G_api_Unit) (y20 : Int) (k19M : Int → Option Bool) : Option Bool :=
 bif (decide (y20 < (v1.fCode.length : Int))) then (
 g_cosignerref08_SameUnits_J8_M N v1 y20 v2 k19M) else (
 g_cosignerref08_SameUnits_J2_M N v1 v2)
def g_cosignerref08_SameUnits_L7_I (N : Nat) (v1 : G_api_Unit) (v2 : G_api_Unit)  : Nat → Int → Option Bool
  | 0, _ => none
  | n + 1, y20 => g_cosignerref08_SameUnits_L7_M N v1 v2 y20  (fun qy0 => g_cosignerref08_SameUnits_L7_I N v1 v2 n qy0)
def g_cosignerref08_SameUnits_J1_M (N : Nat) (v1 : G_api_Unit) (v2 : G_api_Unit)  : Option Bool :=
 g_cosignerref08_SameUnits_L7_I N v1 v2 N 0
def g_cosignerref08_SameUnits_P1_M (N : Nat) (v1 : G_api_Unit) (v2 : G_api_Unit) (v79 : Bool)  : Option Bool :=
 bif v79 then (
 some false) else (
 g_cosignerref08_SameUnits_J1_M N v1 v2)
def g_cosignerref08_SameUnits_P2_M (N : Nat) (v1 : G_api_Unit) (v2 : G_api_Unit) (v71 : Bool)  : Option Bool :=
 bif v71 then (
 g_cosignerref08_SameUnits_P1_M N v1 v2 true) else (
 g_cosignerref08_SameUnits_P1_M N v1 v2 (!decide ((v1.fGuards.length : Int) = (v2.fGuards.length : Int))))
def g_cosignerref08_SameUnits_P3_M (N : Nat) (v1 : G_api_Unit) (v2 : G_api_Unit) (v63 : Bool)  : Option Bool :=
 bif v63 then (
 g_cosignerref08_SameUnits_P2_M N v1 v2 true) else (
 g_cosignerref08_SameUnits_P2_M N v1 v2 (!decide ((v1.fCode.length : Int) = (v2.fCode.length : Int))))
def g_cosignerref08_SameUnits_P4_M (N : Nat) (v1 : G_api_Unit) (v2 : G_api_Unit) (v57 : Bool)  : Option Bool :=
 bif v57 then (
 g_cosignerref08_SameUnits_P3_M N v1 v2 true) else (
 g_cosignerref08_SameUnits_P3_M N v1 v2 (!decide (v1.fFrame = v2.fFrame)))
def g_cosignerref08_SameUnits_P5_M (N : Nat) (v1 : G_api_Unit) (v2 : G_api_Unit) (v51 : Bool)  : Option Bool :=
 bif v51 then (
 g_cosignerref08_SameUnits_P4_M N v1 v2 true) else (
 g_cosignerref08_SameUnits_P4_M N v1 v2 (!decide (v1.fSlots = v2.fSlots)))
def g_cosignerref08_SameUnits_P6_M (N : Nat) (v1 : G_api_Unit) (v2 : G_api_Unit) (v45 : Bool)  : Option Bool :=
 bif v45 then (
 g_cosignerref08_SameUnits_P5_M N v1 v2 true) else (
 g_cosignerref08_SameUnits_P5_M N v1 v2 (!decide (v1.fArgs = v2.fArgs)))
def cosignerref08_SameUnits_M (N : Nat) (x0 : G_api_Unit) (x1 : G_api_Unit) : Option Bool :=
 bif (!decide (x0.fClass = x1.fClass)) then (
 g_cosignerref08_SameUnits_P6_M N x0 x1 true) else (
 g_cosignerref08_SameUnits_P6_M N x0 x1 (!decide (x0.fName = x1.fName)))
abbrev cosignerref08_SameUnits_H (c : Cx) (R : Value → W) (r : Bool) : Prop := ∀ (g' h' : AH), Sep c g' h' [] → R (.bool r) h'
theorem g_cosignerref08_SameUnits_J9_lf {w0 : World} {c : Cx} {g h : AH} {E R : Value → W} {r : Bool} {N : Nat} {y20 : Int} {k19_0 k19_1 : G_api_Unit} {k19_0_b : Nat} {k19_0_w1 k19_0_w2 : Value} {k19_1_b : Nat} {k19_1_w1 k19_1_w2 : Value} {k19 : Value → W} {k19M : Int → Option Bool} {gbk19 : AH} (M : g_cosignerref08_SameUnits_J9_M N y20 k19_0 k19_1 k19M = some r) (S : Sep c g h [.bx k19_0_b [(.string k19_0.fClass), (.string k19_0.fName), (vi k19_0.fArgs), (vi k19_0.fSlots), (vi k19_0.fFrame), k19_0_w1, k19_0_w2], .bx k19_1_b [(.string k19_1.fClass), (.string k19_1.fName), (vi k19_1.fArgs), (vi k19_1.fSlots), (vi k19_1.fFrame), k19_1_w1, k19_1_w2]]) (k19_0_F1 : FzS G_api_Ins.rep 4 g k19_0_w1 k19_0.fCode) (k19_0_F2 : FzS G_api_Guard.rep 3 g k19_0_w2 k19_0.fGuards) (k19_1_F1 : FzS G_api_Ins.rep 4 g k19_1_w1 k19_1.fCode) (k19_1_F2 : FzS G_api_Guard.rep 3 g k19_1_w2 k19_1.fGuards) (sbk19 : Sub gbk19 g) (Hk19 : ∀ {qy0 : Int} {g2 h2 : AH}, k19M qy0 = some r → Sub gbk19 g2 → Sep c g2 h2 [.bx k19_0_b [(.string k19_0.fClass), (.string k19_0.fName), (vi k19_0.fArgs), (vi k19_0.fSlots), (vi k19_0.fFrame), k19_0_w1, k19_0_w2], .bx k19_1_b [(.string k19_1.fClass), (.string k19_1.fName), (vi k19_1.fArgs), (vi k19_1.fSlots), (vi k19_1.fFrame), k19_1_w1, k19_1_w2]] → k19 (vi qy0) h2) (H : cosignerref08_SameUnits_H c R r) : g_cosignerref08_SameUnits_J9 w0 E R (vi y20) k19 h := by
  unfold g_cosignerref08_SameUnits_J9
  unfold g_cosignerref08_SameUnits_J9_M at M
  refine WP_add.2 ?_
  exact Hk19 M sbk19 S
theorem g_cosignerref08_SameUnits_J8_lf {w0 : World} {c : Cx} {g h : AH} {E R : Value → W} {r : Bool} {N : Nat} {v1 : G_api_Unit} {y20 : Int} {v2 : G_api_Unit} {v1_b : Nat} {v1_w1 v1_w2 : Value} {v2_b : Nat} {v2_w1 v2_w2 : Value} {k19 : Value → W} {k19M : Int → Option Bool} {gbk19 : AH} (M : g_cosignerref08_SameUnits_J8_M N v1 y20 v2 k19M = some r) (S : Sep c g h [.bx v1_b [(.string v1.fClass), (.string v1.fName), (vi v1.fArgs), (vi v1.fSlots), (vi v1.fFrame), v1_w1, v1_w2], .bx v2_b [(.string v2.fClass), (.string v2.fName), (vi v2.fArgs), (vi v2.fSlots), (vi v2.fFrame), v2_w1, v2_w2]]) (v1_F1 : FzS G_api_Ins.rep 4 g v1_w1 v1.fCode) (v1_F2 : FzS G_api_Guard.rep 3 g v1_w2 v1.fGuards) (v2_F1 : FzS G_api_Ins.rep 4 g v2_w1 v2.fCode) (v2_F2 : FzS G_api_Guard.rep 3 g v2_w2 v2.fGuards) (sbk19 : Sub gbk19 g) (Hk19 : ∀ {qy0 : Int} {g2 h2 : AH}, k19M qy0 = some r → Sub gbk19 g2 → Sep c g2 h2 [.bx v1_b [(.string v1.fClass), (.string v1.fName), (vi v1.fArgs), (vi v1.fSlots), (vi v1.fFrame), v1_w1, v1_w2], .bx v2_b [(.string v2.fClass), (.string v2.fName), (vi v2.fArgs), (vi v2.fSlots), (vi v2.fFrame), v2_w1, v2_w2]] → k19 (vi qy0) h2) (H : cosignerref08_SameUnits_H c R r) : g_cosignerref08_SameUnits_J8 w0 E R (mkP v1_b 0) (vi y20) (mkP v2_b 0) k19 h := by
  unfold g_cosignerref08_SameUnits_J8
  unfold g_cosignerref08_SameUnits_J8_M at M
  refine WP_fieldAddr.2 ?_
  refine S.bld1 0 rfl rfl ?_
  obtain ⟨c_3, hx_4, M⟩ := bind_some M
  refine FzS.idx v1_F1 hx_4 (fun b_5 o_6 vs E_8 r_7 rp => ?_)
  cases rp
  refine S.fldN r_7 rfl (by decide) ?_
  refine WP_fieldAddr.2 ?_
  refine S.bld1 1 rfl rfl ?_
  obtain ⟨c_9, hx_10, M⟩ := bind_some M
  refine FzS.idx v2_F1 hx_10 (fun b_11 o_12 vs E_14 r_13 rp => ?_)
  cases rp
  refine S.fldN r_13 rfl (by decide) ?_
  refine (WX_eqAgg (eqS_int (eqS_int (eqS_int (eqS_int eqS_nil))))).2 ?_
  refine br_lf (fun hc => ?_) (fun hc => ?_)
  · have M := cond_T hc M
    cases M
    exact H _ _  S.drops
  · have M := cond_F hc M
    exact g_cosignerref08_SameUnits_J9_lf M S v1_F1 v1_F2 v2_F1 v2_F2 sbk19 Hk19 H
theorem g_cosignerref08_SameUnits_J6_lf {w0 : World} {c : Cx} {g h : AH} {E R : Value → W} {r : Bool} {N : Nat} {y4 : Int} {k3_0 k3_1 : G_api_Unit} {k3_0_b : Nat} {k3_0_w1 k3_0_w2 : Value} {k3_1_b : Nat} {k3_1_w1 k3_1_w2 : Value} {k3 : Value → W} {k3M : Int → Option Bool} {gbk3 : AH} (M : g_cosignerref08_SameUnits_J6_M N y4 k3_0 k3_1 k3M = some r) (S : Sep c g h [.bx k3_0_b [(.string k3_0.fClass), (.string k3_0.fName), (vi k3_0.fArgs), (vi k3_0.fSlots), (vi k3_0.fFrame), k3_0_w1, k3_0_w2], .bx k3_1_b [(.string k3_1.fClass), (.string k3_1.fName), (vi k3_1.fArgs), (vi k3_1.fSlots), (vi k3_1.fFrame), k3_1_w1, k3_1_w2]]) (k3_0_F1 : FzS G_api_Ins.rep 4 g k3_0_w1 k3_0.fCode) (k3_0_F2 : FzS G_api_Guard.rep 3 g k3_0_w2 k3_0.fGuards) (k3_1_F1 : FzS G_api_Ins.rep 4 g k3_1_w1 k3_1.fCode) (k3_1_F2 : FzS G_api_Guard.rep 3 g k3_1_w2 k3_1.fGuards) (sbk3 : Sub gbk3 g) (Hk3 : ∀ {qy0 : Int} {g2 h2 : AH}, k3M qy0 = some r → Sub gbk3 g2 → Sep c g2 h2 [.bx k3_0_b [(.string k3_0.fClass), (.string k3_0.fName), (vi k3_0.fArgs), (vi k3_0.fSlots), (vi k3_0.fFrame), k3_0_w1, k3_0_w2], .bx k3_1_b [(.string k3_1.fClass), (.string k3_1.fName), (vi k3_1.fArgs), (vi k3_1.fSlots), (vi k3_1.fFrame), k3_1_w1, k3_1_w2]] → k3 (vi qy0) h2) (H : cosignerref08_SameUnits_H c R r) : g_cosignerref08_SameUnits_J6 w0 E R (vi y4) k3 h := by
  unfold g_cosignerref08_SameUnits_J6
  unfold g_cosignerref08_SameUnits_J6_M at M
  refine WP_add.2 ?_
  exact Hk3 M sbk3 S
theorem g_cosignerref08_SameUnits_J5_lf {w0 : World} {c : Cx} {g h : AH} {E R : Value → W} {r : Bool} {N : Nat} {v1 : G_api_Unit} {y4 : Int} {v2 : G_api_Unit} {v1_b : Nat} {v1_w1 v1_w2 : Value} {v2_b : Nat} {v2_w1 v2_w2 : Value} {k3 : Value → W} {k3M : Int → Option Bool} {gbk3 : AH} (M : g_cosignerref08_SameUnits_J5_M N v1 y4 v2 k3M = some r) (S : Sep c g h [.bx v1_b [(.string v1.fClass), (.string v1.fName), (vi v1.fArgs), (vi v1.fSlots), (vi v1.fFrame), v1_w1, v1_w2], .bx v2_b [(.string v2.fClass), (.string v2.fName), (vi v2.fArgs), (vi v2.fSlots), (vi v2.fFrame), v2_w1, v2_w2]]) (v1_F1 : FzS G_api_Ins.rep 4 g v1_w1 v1.fCode) (v1_F2 : FzS G_api_Guard.rep 3 g v1_w2 v1.fGuards) (v2_F1 : FzS G_api_Ins.rep 4 g v2_w1 v2.fCode) (v2_F2 : FzS G_api_Guard.rep 3 g v2_w2 v2.fGuards) (sbk3 : Sub gbk3 g) (Hk3 : ∀ {qy0 : Int} {g2 h2 : AH}, k3M qy0 = some r → Sub gbk3 g2 → Sep c g2 h2 [.bx v1_b [(.string v1.fClass), (.string v1.fName), (vi v1.fArgs), (vi v1.fSlots), (vi v1.fFrame), v1_w1, v1_w2], .bx v2_b [(.string v2.fClass), (.string v2.fName), (vi v2.fArgs), (vi v2.fSlots), (vi v2.fFrame), v2_w1, v2_w2]] → k3 (vi qy0) h2) (H : cosignerref08_SameUnits_H c R r) : g_cosignerref08_SameUnits_J5 w0 E R (mkP v1_b 0) (vi y4) (mkP v2_b 0) k3 h := by
  unfold g_cosignerref08_SameUnits_J5
  unfold g_cosignerref08_SameUnits_J5_M at M
  refine WP_fieldAddr.2 ?_
  refine S.bld1 0 rfl rfl ?_
  obtain ⟨c_15, hx_16, M⟩ := bind_some M
  refine FzS.idx v1_F2 hx_16 (fun b_17 o_18 vs E_20 r_19 rp => ?_)
  cases rp
  refine S.fldN r_19 rfl (by decide) ?_
  refine WP_fieldAddr.2 ?_
  refine S.bld1 1 rfl rfl ?_
  obtain ⟨c_21, hx_22, M⟩ := bind_some M
  refine FzS.idx v2_F2 hx_22 (fun b_23 o_24 vs E_26 r_25 rp => ?_)
  cases rp
  refine S.fldN r_25 rfl (by decide) ?_
  refine (WX_eqAgg (eqS_int (eqS_int (eqS_int eqS_nil)))).2 ?_
  refine br_lf (fun hc => ?_) (fun hc => ?_)
  · have M := cond_T hc M
    cases M
    exact H _ _  S.drops
  · have M := cond_F hc M
    exact g_cosignerref08_SameUnits_J6_lf M S v1_F1 v1_F2 v2_F1 v2_F2 sbk3 Hk3 H
theorem g_cosignerref08_SameUnits_J3_lf {w0 : World} {c : Cx} {g h : AH} {E R : Value → W} {r : Bool} {N : Nat}   (M : g_cosignerref08_SameUnits_J3_M N  = some r) (S : Sep c g h [])   (H : cosignerref08_SameUnits_H c R r) : g_cosignerref08_SameUnits_J3 w0 E R  h := by
  unfold g_cosignerref08_SameUnits_J3
  unfold g_cosignerref08_SameUnits_J3_M at M
  cases M
  exact H _ _  S.drops
theorem g_cosignerref08_SameUnits_L4_lf {w0 : World} {c : Cx} {g h : AH} {E R : Value → W} {r : Bool} {N : Nat} {v1 v2 : G_api_Unit} {y4 : Int} {v1_b : Nat} {v1_w1 v1_w2 : Value} {v2_b : Nat} {v2_w1 v2_w2 : Value} {k3 : Value → W} {k3M : Int → Option Bool} {gbk3 : AH} (M : g_cosignerref08_SameUnits_L4_M N v1 v2 y4 k3M = some r) (S : Sep c g h [.bx v1_b [(.string v1.fClass), (.string v1.fName), (vi v1.fArgs), (vi v1.fSlots), (vi v1.fFrame), v1_w1, v1_w2], .bx v2_b [(.string v2.fClass), (.string v2.fName), (vi v2.fArgs), (vi v2.fSlots), (vi v2.fFrame), v2_w1, v2_w2]]) (v1_F1 : FzS G_api_Ins.rep 4 g v1_w1 v1.fCode) (v1_F2 : FzS G_api_Guard.rep 3 g v1_w2 v1.fGuards) (v2_F1 : FzS G_api_Ins.rep 4 g v2_w1 v2.fCode) (v2_F2 : FzS G_api_Guard.rep 3 g v2_w2 v2.fGuards) (sbk3 : Sub gbk3 g) (Hk3 : ∀ {qy0 : Int} {g2 h2 : AH}, k3M qy0 = some r → Sub gbk3 g2 → Sep c g2 h2 [.bx v1_b [(.string v1.fClass), (.string v1.fName), (vi v1.fArgs), (vi v1.fSlots), (vi v1.fFrame), v1_w1, v1_w2], .bx v2_b [(.string v2.fClass), (.string v2.fName), (vi v2.fArgs), (vi v2.fSlots), (vi v2.fFrame), v2_w1, v2_w2]] → k3 (vi qy0) h2) (H : cosignerref08_SameUnits_H c R r) : g_cosignerref08_SameUnits_L4 w0 E R (mkP v1_b 0) (mkP v2_b 0) k3 (vi y4) h := by
  unfold g_cosignerref08_SameUnits_L4
  unfold g_cosignerref08_SameUnits_L4_M at M
  refine WP_fieldAddr.2 ?_
  refine S.bld1 0 rfl rfl ?_
  refine v1_F2.len ?_
  refine WP_lss.2 ?_
  refine br_lf (fun hc => ?_) (fun hc => ?_)
  · have M := cond_T hc M
    exact g_cosignerref08_SameUnits_J5_lf M S v1_F1 v1_F2 v2_F1 v2_F2 sbk3 Hk3 H
  · have M := cond_F hc M
    have S := S.t0
    exact g_cosignerref08_SameUnits_J3_lf M S  H
theorem g_cosignerref08_SameUnits_L4_li {w0 : World} {c : Cx} {E R : Value → W} {r : Bool} {N : Nat} {v1 v2 : G_api_Unit} {v1_b : Nat} {v1_w1 v1_w2 : Value} {v2_b : Nat} {v2_w1 v2_w2 : Value}   (H : cosignerref08_SameUnits_H c R r) : ∀ (n : Nat) {y4 : Int} {g h : AH}, g_cosignerref08_SameUnits_L4_I N v1 v2 n y4 = some r → Sep c g h [.bx v1_b [(.string v1.fClass), (.string v1.fName), (vi v1.fArgs), (vi v1.fSlots), (vi v1.fFrame), v1_w1, v1_w2], .bx v2_b [(.string v2.fClass), (.string v2.fName), (vi v2.fArgs), (vi v2.fSlots), (vi v2.fFrame), v2_w1, v2_w2]] → FzS G_api_Ins.rep 4 g v1_w1 v1.fCode → FzS G_api_Guard.rep 3 g v1_w2 v1.fGuards → FzS G_api_Ins.rep 4 g v2_w1 v2.fCode → FzS G_api_Guard.rep 3 g v2_w2 v2.fGuards → LPn (α := Value) (fun k a => g_cosignerref08_SameUnits_L4 w0 E R (mkP v1_b 0) (mkP v2_b 0) k a) n (vi y4) h := by
  intro n
  induction n with
  | zero =>
    intro y4  g h M S v1_F1 v1_F2 v2_F1 v2_F2
    unfold g_cosignerref08_SameUnits_L4_I at M; cases M
  | succ n ih =>
    intro y4  g h M S v1_F1 v1_F2 v2_F1 v2_F2
    exact g_cosignerref08_SameUnits_L4_lf M S v1_F1 v1_F2 v2_F1 v2_F2  (Sub.refl g) (fun M2 sub S2  => ih M2 S2 (FzS.mono v1_F1 G_api_Ins.mono sub) (FzS.mono v1_F2 G_api_Guard.mono sub) (FzS.mono v2_F1 G_api_Ins.mono sub) (FzS.mono v2_F2 G_api_Guard.mono sub) ) H
theorem g_cosignerref08_SameUnits_J2_lf {w0 : World} {c : Cx} {g h : AH} {E R : Value → W} {r : Bool} {N : Nat} {v1 v2 : G_api_Unit} {v1_b : Nat} {v1_w1 v1_w2 : Value} {v2_b : Nat} {v2_w1 v2_w2 : Value}  (M : g_cosignerref08_SameUnits_J2_M N v1 v2 = some r) (S : Sep c g h [.bx v1_b [(.string v1.fClass), (.string v1.fName), (vi v1.fArgs), (vi v1.fSlots), (vi v1.fFrame), v1_w1, v1_w2], .bx v2_b [(.string v2.fClass), (.string v2.fName), (vi v2.fArgs), (vi v2.fSlots), (vi v2.fFrame), v2_w1, v2_w2]]) (v1_F1 : FzS G_api_Ins.rep 4 g v1_w1 v1.fCode) (v1_F2 : FzS G_api_Guard.rep 3 g v1_w2 v1.fGuards) (v2_F1 : FzS G_api_Ins.rep 4 g v2_w1 v2.fCode) (v2_F2 : FzS G_api_Guard.rep 3 g v2_w2 v2.fGuards)  (H : cosignerref08_SameUnits_H c R r) : g_cosignerref08_SameUnits_J2 w0 E R (mkP v1_b 0) (mkP v2_b 0) h := by
  unfold g_cosignerref08_SameUnits_J2
  unfold g_cosignerref08_SameUnits_J2_M at M
  exact ⟨N, g_cosignerref08_SameUnits_L4_li  H _ M S v1_F1 v1_F2 v2_F1 v2_F2 ⟩
theorem g_cosignerref08_SameUnits_L7_lf {w0 : World} {c : Cx} {g h : AH} {E R : Value → W} {r : Bool} {N : Nat} {v1 v2 : G_api_Unit} {y20 : Int} {v1_b : Nat} {v1_w1 v1_w2 : Value} {v2_b : Nat} {v2_w1 v2_w2 : Value} {k19 : Value → W} {k19M : Int → Option Bool} {gbk19 : AH} (M : g_cosignerref08_SameUnits_L7_M N v1 v2 y20 k19M = some r) (S : Sep c g h [.bx v1_b [(.string v1.fClass), (.string v1.fName), (vi v1.fArgs), (vi v1.fSlots), (vi v1.fFrame), v1_w1, v1_w2], .bx v2_b [(.string v2.fClass), (.string v2.fName), (vi v2.fArgs), (vi v2.fSlots), (vi v2.fFrame), v2_w1, v2_w2]]) (v1_F1 : FzS G_api_Ins.rep 4 g v1_w1 v1.fCode) (v1_F2 : FzS G_api_Guard.rep 3 g v1_w2 v1.fGuards) (v2_F1 : FzS G_api_Ins.rep 4 g v2_w1 v2.fCode) (v2_F2 : FzS G_api_Guard.rep 3 g v2_w2 v2.fGuards) (sbk19 : Sub gbk19 g) (Hk19 : ∀ {qy0 : Int} {g2 h2 : AH}, k19M qy0 = some r → Sub gbk19 g2 → Sep c g2 h2 [.bx v1_b [(.string v1.fClass), (.string v1.fName), (vi v1.fArgs), (vi v1.fSlots), (vi v1.fFrame), v1_w1, v1_w2], .bx v2_b [(.string v2.fClass), (.string v2.fName), (vi v2.fArgs), (vi v2.fSlots), (vi v2.fFrame), v2_w1, v2_w2]] → k19 (vi qy0) h2) (H : cosignerref08_SameUnits_H c R r) : g_cosignerref08_SameUnits_L7 w0 E R (mkP v1_b 0) (mkP v2_b 0) k19 (vi y20) h := by
  unfold g_cosignerref08_SameUnits_L7
  unfold g_cosignerref08_SameUnits_L7_M at M
  refine WP_fieldAddr.2 ?_
  refine S.bld1 0 rfl rfl ?_
  refine v1_F1.len ?_
  refine WP_lss.2 ?_
  refine br_lf (fun hc => ?_) (fun hc => ?_)
  · have M := cond_T hc M
    exact g_cosignerref08_SameUnits_J8_lf M S v1_F1 v1_F2 v2_F1 v2_F2 sbk19 Hk19 H
  · have M := cond_F hc M
    exact g_cosignerref08_SameUnits_J2_lf M S v1_F1 v1_F2 v2_F1 v2_F2 H
theorem g_cosignerref08_SameUnits_L7_li {w0 : World} {c : Cx} {E R : Value → W} {r : Bool} {N : Nat} {v1 v2 : G_api_Unit} {v1_b : Nat} {v1_w1 v1_w2 : Value} {v2_b : Nat} {v2_w1 v2_w2 : Value}   (H : cosignerref08_SameUnits_H c R r) : ∀ (n : Nat) {y20 : Int} {g h : AH}, g_cosignerref08_SameUnits_L7_I N v1 v2 n y20 = some r → Sep c g h [.bx v1_b [(.string v1.fClass), (.string v1.fName), (vi v1.fArgs), (vi v1.fSlots), (vi v1.fFrame), v1_w1, v1_w2], .bx v2_b [(.string v2.fClass), (.string v2.fName), (vi v2.fArgs), (vi v2.fSlots), (vi v2.fFrame), v2_w1, v2_w2]] → FzS G_api_Ins.rep 4 g v1_w1 v1.fCode → FzS G_api_Guard.rep 3 g v1_w2 v1.fGuards → FzS G_api_Ins.rep 4 g v2_w1 v2.fCode → FzS G_api_Guard.rep 3 g v2_w2 v2.fGuards → LPn (α := Value) (fun k a => g_cosignerref08_SameUnits_L7 w0 E R (mkP v1_b 0) (mkP v2_b 0) k a) n (vi y20) h := by
  intro n
  induction n with
  | zero =>
    intro y20  g h M S v1_F1 v1_F2 v2_F1 v2_F2
    unfold g_cosignerref08_SameUnits_L7_I at M; cases M
  | succ n ih =>
    intro y20  g h M S v1_F1 v1_F2 v2_F1 v2_F2
    exact g_cosignerref08_SameUnits_L7_lf M S v1_F1 v1_F2 v2_F1 v2_F2  (Sub.refl g) (fun M2 sub S2  => ih M2 S2 (FzS.mono v1_F1 G_api_Ins.mono sub) (FzS.mono v1_F2 G_api_Guard.mono sub) (FzS.mono v2_F1 G_api_Ins.mono sub) (FzS.mono v2_F2 G_api_Guard.mono sub) ) H
theorem g_cosignerref08_SameUnits_J1_lf {w0 : World} {c : Cx} {g h : AH} {E R : Value → W} {r : Bool} {N : Nat} {v1 v2 : G_api_Unit} {v1_b : Nat} {v1_w1 v1_w2 : Value} {v2_b : Nat} {v2_w1 v2_w2 : Value}  (M : g_cosignerref08_SameUnits_J1_M N v1 v2 = some r) (S : Sep c g h [.bx v1_b [(.string v1.fClass), (.string v1.fName), (vi v1.fArgs), (vi v1.fSlots), (vi v1.fFrame), v1_w1, v1_w2], .bx v2_b [(.string v2.fClass), (.string v2.fName), (vi v2.fArgs), (vi v2.fSlots), (vi v2.fFrame), v2_w1, v2_w2]]) (v1_F1 : FzS G_api_Ins.rep 4 g v1_w1 v1.fCode) (v1_F2 : FzS G_api_Guard.rep 3 g v1_w2 v1.fGuards) (v2_F1 : FzS G_api_Ins.rep 4 g v2_w1 v2.fCode) (v2_F2 : FzS G_api_Guard.rep 3 g v2_w2 v2.fGuards)  (H : cosignerref08_SameUnits_H c R r) : g_cosignerref08_SameUnits_J1 w0 E R (mkP v1_b 0) (mkP v2_b 0) h := by
  unfold g_cosignerref08_SameUnits_J1
  unfold g_cosignerref08_SameUnits_J1_M at M
  exact ⟨N, g_cosignerref08_SameUnits_L7_li  H _ M S v1_F1 v1_F2 v2_F1 v2_F2 ⟩
theorem g_cosignerref08_SameUnits_P1_lf {w0 : World} {c : Cx} {g h : AH} {E R : Value → W} {r : Bool} {N : Nat} {v1 v2 : G_api_Unit} {v79 : Bool} {v1_b : Nat} {v1_w1 v1_w2 : Value} {v2_b : Nat} {v2_w1 v2_w2 : Value}  (M : g_cosignerref08_SameUnits_P1_M N v1 v2 v79 = some r) (S : Sep c g h [.bx v1_b [(.string v1.fClass), (.string v1.fName), (vi v1.fArgs), (vi v1.fSlots), (vi v1.fFrame), v1_w1, v1_w2], .bx v2_b [(.string v2.fClass), (.string v2.fName), (vi v2.fArgs), (vi v2.fSlots), (vi v2.fFrame), v2_w1, v2_w2]]) (v1_F1 : FzS G_api_Ins.rep 4 g v1_w1 v1.fCode) (v1_F2 : FzS G_api_Guard.rep 3 g v1_w2 v1.fGuards) (v2_F1 : FzS G_api_Ins.rep 4 g v2_w1 v2.fCode) (v2_F2 : FzS G_api_Guard.rep 3 g v2_w2 v2.fGuards)  (H : cosignerref08_SameUnits_H c R r) : g_cosignerref08_SameUnits_P1 w0 E R (mkP v1_b 0) (mkP v2_b 0) (.bool v79) h := by
  unfold g_cosignerref08_SameUnits_P1
  unfold g_cosignerref08_SameUnits_P1_M at M
  refine br_lf (fun hc => ?_) (fun hc => ?_)
  · have M := cond_T hc M
    cases M
    exact H _ _  S.drops
  · have M := cond_F hc M
    exact g_cosignerref08_SameUnits_J1_lf M S v1_F1 v1_F2 v2_F1 v2_F2 H
theorem g_cosignerref08_SameUnits_P2_lf {w0 : World} {c : Cx} {g h : AH} {E R : Value → W} {r : Bool} {N : Nat} {v1 v2 : G_api_Unit} {v71 : Bool} {v1_b : Nat} {v1_w1 v1_w2 : Value} {v2_b : Nat} {v2_w1 v2_w2 : Value}  (M : g_cosignerref08_SameUnits_P2_M N v1 v2 v71 = some r) (S : Sep c g h [.bx v1_b [(.string v1.fClass), (.string v1.fName), (vi v1.fArgs), (vi v1.fSlots), (vi v1.fFrame), v1_w1, v1_w2], .bx v2_b [(.string v2.fClass), (.string v2.fName), (vi v2.fArgs), (vi v2.fSlots), (vi v2.fFrame), v2_w1, v2_w2]]) (v1_F1 : FzS G_api_Ins.rep 4 g v1_w1 v1.fCode) (v1_F2 : FzS G_api_Guard.rep 3 g v1_w2 v1.fGuards) (v2_F1 : FzS G_api_Ins.rep 4 g v2_w1 v2.fCode) (v2_F2 : FzS G_api_Guard.rep 3 g v2_w2 v2.fGuards)  (H : cosignerref08_SameUnits_H c R r) : g_cosignerref08_SameUnits_P2 w0 E R (mkP v1_b 0) (mkP v2_b 0) (.bool v71) h := by
  unfold g_cosignerref08_SameUnits_P2
  unfold g_cosignerref08_SameUnits_P2_M at M
  cases hc : v71
  · have M := cond_F hc M
    refine gd_hit rfl ?_
    refine WP_fieldAddr.2 ?_
    refine gd_hit rfl ?_
    refine S.bld1 0 rfl rfl ?_
    refine gd_hit rfl ?_
    refine v1_F2.len ?_
    refine gd_hit rfl ?_
    refine WP_fieldAddr.2 ?_
    refine gd_hit rfl ?_
    refine S.bld1 1 rfl rfl ?_
    refine gd_hit rfl ?_
    refine v2_F2.len ?_
    refine gd_hit rfl ?_
    refine WP_neq.2 ?_
    refine WP_pick.2 ?_
    exact g_cosignerref08_SameUnits_P1_lf M S v1_F1 v1_F2 v2_F1 v2_F2 H
  · have M := cond_T hc M
    refine gd_mis (by decide) ?_
    refine gd_mis (by decide) ?_
    refine gd_mis (by decide) ?_
    refine gd_mis (by decide) ?_
    refine gd_mis (by decide) ?_
    refine gd_mis (by decide) ?_
    refine gd_mis (by decide) ?_
    refine WP_pick.2 ?_
    exact g_cosignerref08_SameUnits_P1_lf M S v1_F1 v1_F2 v2_F1 v2_F2 H
theorem g_cosignerref08_SameUnits_P3_lf {w0 : World} {c : Cx} {g h : AH} {E R : Value → W} {r : Bool} {N : Nat} {v1 v2 : G_api_Unit} {v63 : Bool} {v1_b : Nat} {v1_w1 v1_w2 : Value} {v2_b : Nat} {v2_w1 v2_w2 : Value}  (M : g_cosignerref08_SameUnits_P3_M N v1 v2 v63 = some r) (S : Sep c g h [.bx v1_b [(.string v1.fClass), (.string v1.fName), (vi v1.fArgs), (vi v1.fSlots), (vi v1.fFrame), v1_w1, v1_w2], .bx v2_b [(.string v2.fClass), (.string v2.fName), (vi v2.fArgs), (vi v2.fSlots), (vi v2.fFrame), v2_w1, v2_w2]]) (v1_F1 : FzS G_api_Ins.rep 4 g v1_w1 v1.fCode) (v1_F2 : FzS G_api_Guard.rep 3 g v1_w2 v1.fGuards) (v2_F1 : FzS G_api_Ins.rep 4 g v2_w1 v2.fCode) (v2_F2 : FzS G_api_Guard.rep 3 g v2_w2 v2.fGuards)  (H : cosignerref08_SameUnits_H c R r) : g_cosignerref08_SameUnits_P3 w0 E R (mkP v1_b 0) (mkP v2_b 0) (.bool v63) h := by
  unfold g_cosignerref08_SameUnits_P3
  unfold g_cosignerref08_SameUnits_P3_M at M
  cases hc : v63
  · have M := cond_F hc M
    refine gd_hit rfl ?_
    refine WP_fieldAddr.2 ?_
    refine gd_hit rfl ?_
    refine S.bld1 0 rfl rfl ?_
    refine gd_hit rfl ?_
    refine v1_F1.len ?_
    refine gd_hit rfl ?_
    refine WP_fieldAddr.2 ?_
    refine gd_hit rfl ?_
    refine S.bld1 1 rfl rfl ?_
    refine gd_hit rfl ?_
    refine v2_F1.len ?_
    refine gd_hit rfl ?_
    refine WP_neq.2 ?_
    refine WP_pick.2 ?_
    exact g_cosignerref08_SameUnits_P2_lf M S v1_F1 v1_F2 v2_F1 v2_F2 H
  · have M := cond_T hc M
    refine gd_mis (by decide) ?_
    refine gd_mis (by decide) ?_
    refine gd_mis (by decide) ?_
    refine gd_mis (by decide) ?_
    refine gd_mis (by decide) ?_
    refine gd_mis (by decide) ?_
    refine gd_mis (by decide) ?_
    refine WP_pick.2 ?_
    exact g_cosignerref08_SameUnits_P2_lf M S v1_F1 v1_F2 v2_F1 v2_F2 H
theorem g_cosignerref08_SameUnits_P4_lf {w0 : World} {c : Cx} {g h : AH} {E R : Value → W} {r : Bool} {N : Nat} {v1 v2 : G_api_Unit} {v57 : Bool} {v1_b : Nat} {v1_w1 v1_w2 : Value} {v2_b : Nat} {v2_w1 v2_w2 : Value}  (M : g_cosignerref08_SameUnits_P4_M N v1 v2 v57 = some r) (S : Sep c g h [.bx v1_b [(.string v1.fClass), (.string v1.fName), (vi v1.fArgs), (vi v1.fSlots), (vi v1.fFrame), v1_w1, v1_w2], .bx v2_b [(.string v2.fClass), (.string v2.fName), (vi v2.fArgs), (vi v2.fSlots), (vi v2.fFrame), v2_w1, v2_w2]]) (v1_F1 : FzS G_api_Ins.rep 4 g v1_w1 v1.fCode) (v1_F2 : FzS G_api_Guard.rep 3 g v1_w2 v1.fGuards) (v2_F1 : FzS G_api_Ins.rep 4 g v2_w1 v2.fCode) (v2_F2 : FzS G_api_Guard.rep 3 g v2_w2 v2.fGuards)  (H : cosignerref08_SameUnits_H c R r) : g_cosignerref08_SameUnits_P4 w0 E R (mkP v1_b 0) (mkP v2_b 0) (.bool v57) h := by
  unfold g_cosignerref08_SameUnits_P4
  unfold g_cosignerref08_SameUnits_P4_M at M
  cases hc : v57
  · have M := cond_F hc M
    refine gd_hit rfl ?_
    refine WP_fieldAddr.2 ?_
    refine gd_hit rfl ?_
    refine S.bld1 0 rfl rfl ?_
    refine gd_hit rfl ?_
    refine WP_fieldAddr.2 ?_
    refine gd_hit rfl ?_
    refine S.bld1 1 rfl rfl ?_
    refine gd_hit rfl ?_
    refine WP_neq.2 ?_
    refine WP_pick.2 ?_
    exact g_cosignerref08_SameUnits_P3_lf M S v1_F1 v1_F2 v2_F1 v2_F2 H
  · have M := cond_T hc M
    refine gd_mis (by decide) ?_
    refine gd_mis (by decide) ?_
    refine gd_mis (by decide) ?_
    refine gd_mis (by decide) ?_
    refine gd_mis (by decide) ?_
    refine WP_pick.2 ?_
    exact g_cosignerref08_SameUnits_P3_lf M S v1_F1 v1_F2 v2_F1 v2_F2 H
theorem g_cosignerref08_SameUnits_P5_lf {w0 : World} {c : Cx} {g h : AH} {E R : Value → W} {r : Bool} {N : Nat} {v1 v2 : G_api_Unit} {v51 : Bool} {v1_b : Nat} {v1_w1 v1_w2 : Value} {v2_b : Nat} {v2_w1 v2_w2 : Value}  (M : g_cosignerref08_SameUnits_P5_M N v1 v2 v51 = some r) (S : Sep c g h [.bx v1_b [(.string v1.fClass), (.string v1.fName), (vi v1.fArgs), (vi v1.fSlots), (vi v1.fFrame), v1_w1, v1_w2], .bx v2_b [(.string v2.fClass), (.string v2.fName), (vi v2.fArgs), (vi v2.fSlots), (vi v2.fFrame), v2_w1, v2_w2]]) (v1_F1 : FzS G_api_Ins.rep 4 g v1_w1 v1.fCode) (v1_F2 : FzS G_api_Guard.rep 3 g v1_w2 v1.fGuards) (v2_F1 : FzS G_api_Ins.rep 4 g v2_w1 v2.fCode) (v2_F2 : FzS G_api_Guard.rep 3 g v2_w2 v2.fGuards)  (H : cosignerref08_SameUnits_H c R r) : g_cosignerref08_SameUnits_P5 w0 E R (mkP v1_b 0) (mkP v2_b 0) (.bool v51) h := by
  unfold g_cosignerref08_SameUnits_P5
  unfold g_cosignerref08_SameUnits_P5_M at M
  cases hc : v51
  · have M := cond_F hc M
    refine gd_hit rfl ?_
    refine WP_fieldAddr.2 ?_
    refine gd_hit rfl ?_
    refine S.bld1 0 rfl rfl ?_
    refine gd_hit rfl ?_
    refine WP_fieldAddr.2 ?_
    refine gd_hit rfl ?_
    refine S.bld1 1 rfl rfl ?_
    refine gd_hit rfl ?_
    refine WP_neq.2 ?_
    refine WP_pick.2 ?_
    exact g_cosignerref08_SameUnits_P4_lf M S v1_F1 v1_F2 v2_F1 v2_F2 H
  · have M := cond_T hc M
    refine gd_mis (by decide) ?_
    refine gd_mis (by decide) ?_
    refine gd_mis (by decide) ?_
    refine gd_mis (by decide) ?_
    refine gd_mis (by decide) ?_
    refine WP_pick.2 ?_
    exact g_cosignerref08_SameUnits_P4_lf M S v1_F1 v1_F2 v2_F1 v2_F2 H
theorem g_cosignerref08_SameUnits_P6_lf {w0 : World} {c : Cx} {g h : AH} {E R : Value → W} {r : Bool} {N : Nat} {v1 v2 : G_api_Unit} {v45 : Bool} {v1_b : Nat} {v1_w1 v1_w2 : Value} {v2_b : Nat} {v2_w1 v2_w2 : Value}  (M : g_cosignerref08_SameUnits_P6_M N v1 v2 v45 = some r) (S : Sep c g h [.bx v1_b [(.string v1.fClass), (.string v1.fName), (vi v1.fArgs), (vi v1.fSlots), (vi v1.fFrame), v1_w1, v1_w2], .bx v2_b [(.string v2.fClass), (.string v2.fName), (vi v2.fArgs), (vi v2.fSlots), (vi v2.fFrame), v2_w1, v2_w2]]) (v1_F1 : FzS G_api_Ins.rep 4 g v1_w1 v1.fCode) (v1_F2 : FzS G_api_Guard.rep 3 g v1_w2 v1.fGuards) (v2_F1 : FzS G_api_Ins.rep 4 g v2_w1 v2.fCode) (v2_F2 : FzS G_api_Guard.rep 3 g v2_w2 v2.fGuards)  (H : cosignerref08_SameUnits_H c R r) : g_cosignerref08_SameUnits_P6 w0 E R (mkP v1_b 0) (mkP v2_b 0) (.bool v45) h := by
  unfold g_cosignerref08_SameUnits_P6
  unfold g_cosignerref08_SameUnits_P6_M at M
  cases hc : v45
  · have M := cond_F hc M
    refine gd_hit rfl ?_
    refine WP_fieldAddr.2 ?_
    refine gd_hit rfl ?_
    refine S.bld1 0 rfl rfl ?_
    refine gd_hit rfl ?_
    refine WP_fieldAddr.2 ?_
    refine gd_hit rfl ?_
    refine S.bld1 1 rfl rfl ?_
    refine gd_hit rfl ?_
    refine WP_neq.2 ?_
    refine WP_pick.2 ?_
    exact g_cosignerref08_SameUnits_P5_lf M S v1_F1 v1_F2 v2_F1 v2_F2 H
  · have M := cond_T hc M
    refine gd_mis (by decide) ?_
    refine gd_mis (by decide) ?_
    refine gd_mis (by decide) ?_
    refine gd_mis (by decide) ?_
    refine gd_mis (by decide) ?_
    refine WP_pick.2 ?_
    exact g_cosignerref08_SameUnits_P5_lf M S v1_F1 v1_F2 v2_F1 v2_F2 H
theorem cosignerref08_SameUnits_lf {w0 : World} {g h : AH} {Q : CR → AH → Prop} {r : Bool} {N : Nat} {x0 x1 : G_api_Unit} {x0_w1 x0_w2 x1_w1 x1_w2 : Value} (M : cosignerref08_SameUnits_M N x0 x1 = some r) (sg : Sub g h) (ok : h.Ok) (x0_F1 : FzS G_api_Ins.rep 4 g x0_w1 x0.fCode) (x0_F2 : FzS G_api_Guard.rep 3 g x0_w2 x0.fGuards) (x1_F1 : FzS G_api_Ins.rep 4 g x1_w1 x1.fCode) (x1_F2 : FzS G_api_Guard.rep 3 g x1_w2 x1.fGuards) (H : cosignerref08_SameUnits_H ⟨g, h, []⟩ (fun v => Q (.ret v)) r) : WF PP w0 id_cosignerref08_SameUnits [(.agg ⟨[(.string x0.fClass), (.string x0.fName), (vi x0.fArgs), (vi x0.fSlots), (vi x0.fFrame), x0_w1, x0_w2]⟩), (.agg ⟨[(.string x1.fClass), (.string x1.fName), (vi x1.fArgs), (vi x1.fSlots), (vi x1.fFrame), x1_w1, x1_w2]⟩)] h Q := by
  refine g_cosignerref08_SameUnits_wp _ _ ?_
  have S := Sep.start sg ok
  unfold g_cosignerref08_SameUnits_F
  unfold cosignerref08_SameUnits_M at M
  refine S.box [(.string x0.fClass), (.string x0.fName), (vi x0.fArgs), (vi x0.fSlots), (vi x0.fFrame), x0_w1, x0_w2] rfl (one_cons rfl (one_cons rfl (one_cons rfl (one_cons rfl (one_cons rfl (one_cons x0_F1.one (one_cons x0_F2.one rfl))))))) (fun b_1 h S => ?_)
  refine S.box [(.string x1.fClass), (.string x1.fName), (vi x1.fArgs), (vi x1.fSlots), (vi x1.fFrame), x1_w1, x1_w2] rfl (one_cons rfl (one_cons rfl (one_cons rfl (one_cons rfl (one_cons rfl (one_cons x1_F1.one (one_cons x1_F2.one rfl))))))) (fun b_2 h S => ?_)
  refine WP_fieldAddr.2 ?_
  refine S.bld1 1 rfl rfl ?_
  refine WP_fieldAddr.2 ?_
  refine S.bld1 0 rfl rfl ?_
  refine WP_sneq.2 ?_
  cases hc : (!decide (x0.fClass = x1.fClass))
  · have M := cond_F hc M
    refine gd_hit rfl ?_
    refine WP_fieldAddr.2 ?_
    refine gd_hit rfl ?_
    refine S.bld1 1 rfl rfl ?_
    refine gd_hit rfl ?_
    refine WP_fieldAddr.2 ?_
    refine gd_hit rfl ?_
    refine S.bld1 0 rfl rfl ?_
    refine gd_hit rfl ?_
    refine WP_sneq.2 ?_
    refine WP_pick.2 ?_
    have S := S.f1
    exact g_cosignerref08_SameUnits_P6_lf M S x0_F1 x0_F2 x1_F1 x1_F2 H
  · have M := cond_T hc M
    refine gd_mis (by decide) ?_
    refine gd_mis (by decide) ?_
    refine gd_mis (by decide) ?_
    refine gd_mis (by decide) ?_
    refine gd_mis (by decide) ?_
    refine WP_pick.2 ?_
    have S := S.f1
    exact g_cosignerref08_SameUnits_P6_lf M S x0_F1 x0_F2 x1_F1 x1_F2 H
def g_cosignerlaw08_few_P1_M (v1 : G_api_Unit) (v16 : Bool)  : Option Bool :=
 bif v16 then (
 bif (decide ((v1.fGuards.length : Int) ≤ 8)) then (
 some true) else (
 bif (decide (40 < (v1.fGuards.length : Int))) then (
 some (decide ((v1.fGuards.length : Int) ≤ 60))) else (
 some false))) else (
 some false)
def cosignerlaw08_few_M (x0 : G_api_Unit) : Option Bool :=
 bif (decide ((x0.fCode.length : Int) ≤ 40)) then (
 g_cosignerlaw08_few_P1_M x0 true) else (
 bif (decide (600 < (x0.fCode.length : Int))) then (
 g_cosignerlaw08_few_P1_M x0 (decide ((x0.fCode.length : Int) ≤ 700))) else (
 g_cosignerlaw08_few_P1_M x0 false))
abbrev cosignerlaw08_few_H (c : Cx) (R : Value → W) (r : Bool) : Prop := ∀ (g' h' : AH), Sep c g' h' [] → R (.bool r) h'
theorem g_cosignerlaw08_few_P1_lf {w0 : World} {c : Cx} {g h : AH} {E R : Value → W} {r : Bool} {v1 : G_api_Unit} {v16 : Bool} {v1_b : Nat} {v1_w1 v1_w2 : Value}  (M : g_cosignerlaw08_few_P1_M v1 v16 = some r) (S : Sep c g h [.bx v1_b [(.string v1.fClass), (.string v1.fName), (vi v1.fArgs), (vi v1.fSlots), (vi v1.fFrame), v1_w1, v1_w2]]) (v1_F1 : FzS G_api_Ins.rep 4 g v1_w1 v1.fCode) (v1_F2 : FzS G_api_Guard.rep 3 g v1_w2 v1.fGuards)  (H : cosignerlaw08_few_H c R r) : g_cosignerlaw08_few_P1 w0 E R (mkP v1_b 0) (.bool v16) h := by
  unfold g_cosignerlaw08_few_P1
  unfold g_cosignerlaw08_few_P1_M at M
  cases hc : v16
  · have M := cond_F hc M
    refine gd_mis (by decide) ?_
    refine gd_mis (by decide) ?_
    refine gd_mis (by decide) ?_
    refine gd_mis (by decide) ?_
    refine gd_mis (by decide) ?_
    refine gd_und ?_
    refine gd_und ?_
    refine gd_und ?_
    refine gd_und ?_
    refine gd_und ?_
    refine gd_und ?_
    refine gd_und ?_
    refine gd_und ?_
    refine gd_und ?_
    refine gd_und ?_
    refine gd_mis (by decide) ?_
    refine WP_pick.2 ?_
    cases M
    exact H _ _  S.drops
  · have M := cond_T hc M
    refine gd_hit rfl ?_
    refine WP_fieldAddr.2 ?_
    refine gd_hit rfl ?_
    refine S.bld1 0 rfl rfl ?_
    refine gd_hit rfl ?_
    refine v1_F2.len ?_
    refine gd_hit rfl ?_
    refine WP_leq.2 ?_
    refine gd_hit rfl ?_
    cases hc : (decide ((v1.fGuards.length : Int) ≤ 8))
    · have M := cond_F hc M
      refine gd_hit rfl ?_
      refine WP_fieldAddr.2 ?_
      refine gd_hit rfl ?_
      refine S.bld1 0 rfl rfl ?_
      refine gd_hit rfl ?_
      refine v1_F2.len ?_
      refine gd_hit rfl ?_
      refine WP_gtr.2 ?_
      refine gd_hit rfl ?_
      cases hc : (decide (40 < (v1.fGuards.length : Int)))
      · have M := cond_F hc M
        refine gd_mis (by decide) ?_
        refine gd_mis (by decide) ?_
        refine gd_mis (by decide) ?_
        refine gd_mis (by decide) ?_
        refine gd_hit rfl ?_
        refine WP_pick.2 ?_
        refine gd_hit rfl ?_
        refine WP_pick.2 ?_
        refine WP_pick.2 ?_
        cases M
        exact H _ _  S.drops
      · have M := cond_T hc M
        refine gd_hit rfl ?_
        refine WP_fieldAddr.2 ?_
        refine gd_hit rfl ?_
        refine S.bld1 0 rfl rfl ?_
        refine gd_hit rfl ?_
        refine v1_F2.len ?_
        refine gd_hit rfl ?_
        refine WP_leq.2 ?_
        refine gd_hit rfl ?_
        refine WP_pick.2 ?_
        refine gd_hit rfl ?_
        refine WP_pick.2 ?_
        refine WP_pick.2 ?_
        cases M
        exact H _ _  S.drops
    · have M := cond_T hc M
      refine gd_mis (by decide) ?_
      refine gd_mis (by decide) ?_
      refine gd_mis (by decide) ?_
      refine gd_mis (by decide) ?_
      refine gd_mis (by decide) ?_
      refine gd_und ?_
      refine gd_und ?_
      refine gd_und ?_
      refine gd_und ?_
      refine gd_mis (by decide) ?_
      refine gd_hit rfl ?_
      refine WP_pick.2 ?_
      refine WP_pick.2 ?_
      cases M
      exact H _ _  S.drops
theorem cosignerlaw08_few_lf {w0 : World} {g h : AH} {Q : CR → AH → Prop} {r : Bool} {x0 : G_api_Unit} {x0_w1 x0_w2 : Value} (M : cosignerlaw08_few_M x0 = some r) (sg : Sub g h) (ok : h.Ok) (x0_F1 : FzS G_api_Ins.rep 4 g x0_w1 x0.fCode) (x0_F2 : FzS G_api_Guard.rep 3 g x0_w2 x0.fGuards) (H : cosignerlaw08_few_H ⟨g, h, []⟩ (fun v => Q (.ret v)) r) : WF PP w0 id_cosignerlaw08_few [(.agg ⟨[(.string x0.fClass), (.string x0.fName), (vi x0.fArgs), (vi x0.fSlots), (vi x0.fFrame), x0_w1, x0_w2]⟩)] h Q := by
  refine g_cosignerlaw08_few_wp _ ?_
  have S := Sep.start sg ok
  unfold g_cosignerlaw08_few_F
  unfold cosignerlaw08_few_M at M
  refine S.box [(.string x0.fClass), (.string x0.fName), (vi x0.fArgs), (vi x0.fSlots), (vi x0.fFrame), x0_w1, x0_w2] rfl (one_cons rfl (one_cons rfl (one_cons rfl (one_cons rfl (one_cons rfl (one_cons x0_F1.one (one_cons x0_F2.one rfl))))))) (fun b_1 h S => ?_)
  refine WP_fieldAddr.2 ?_
  refine S.bld1 0 rfl rfl ?_
  refine x0_F1.len ?_
  refine WP_leq.2 ?_
  cases hc : (decide ((x0.fCode.length : Int) ≤ 40))
  · have M := cond_F hc M
    refine gd_hit rfl ?_
    refine WP_fieldAddr.2 ?_
    refine gd_hit rfl ?_
    refine S.bld1 0 rfl rfl ?_
    refine gd_hit rfl ?_
    refine x0_F1.len ?_
    refine gd_hit rfl ?_
    refine WP_gtr.2 ?_
    refine gd_hit rfl ?_
    cases hc : (decide (600 < (x0.fCode.length : Int)))
    · have M := cond_F hc M
      refine gd_mis (by decide) ?_
      refine gd_mis (by decide) ?_
      refine gd_mis (by decide) ?_
      refine gd_mis (by decide) ?_
      refine gd_hit rfl ?_
      refine WP_pick.2 ?_
      refine WP_pick.2 ?_
      exact g_cosignerlaw08_few_P1_lf M S x0_F1 x0_F2 H
    · have M := cond_T hc M
      refine gd_hit rfl ?_
      refine WP_fieldAddr.2 ?_
      refine gd_hit rfl ?_
      refine S.bld1 0 rfl rfl ?_
      refine gd_hit rfl ?_
      refine x0_F1.len ?_
      refine gd_hit rfl ?_
      refine WP_leq.2 ?_
      refine gd_hit rfl ?_
      refine WP_pick.2 ?_
      refine WP_pick.2 ?_
      exact g_cosignerlaw08_few_P1_lf M S x0_F1 x0_F2 H
  · have M := cond_T hc M
    refine gd_mis (by decide) ?_
    refine gd_mis (by decide) ?_
    refine gd_mis (by decide) ?_
    refine gd_mis (by decide) ?_
    refine gd_mis (by decide) ?_
    refine gd_und ?_
    refine gd_und ?_
    refine gd_und ?_
    refine gd_und ?_
    refine gd_mis (by decide) ?_
    refine WP_pick.2 ?_
    exact g_cosignerlaw08_few_P1_lf M S x0_F1 x0_F2 H
end
end Go.Ve.T
namespace Go.Ve
open Go.RowKit
theorem sl_isnil {h : AH} {R : Value → AH → Prop} {b o n cap : Nat} (K : R (.bool false) h) : WP (.eqNil 1 false) [mkS b o n cap, nilS] h R := (WP_eqNil (nk := 1) (b := false) rfl rfl).2 K
theorem nil_isnil {h : AH} {R : Value → AH → Prop} (K : R (.bool true) h) : WP (.eqNil 1 false) [nilS, nilS] h R := (WP_eqNil (nk := 1) (b := true) rfl rfl).2 K
end Go.Ve
namespace Go.Ve.T
open Go.Ve Go.Proofs
noncomputable section
set_option maxRecDepth 10000
section
variable {w0 : World} {g h : AH} {Q : CR → AH → Prop}
def slices_Clone_int_int_M (x0 : List Int) : Option (List Int) := gu (decide (x0.length ≤ 1048576)) (some x0)
theorem slices_Clone_int_int_lf {r : List Int} (x0 : List Int) (x0_v : Value) (sg : Sub g h) (ok : h.Ok) (x0_F : FzS (rI .i64) 1 g x0_v x0) (M : slices_Clone_int_int_M x0 = some r)
    (H : ∀ (g' h' : AH) (w1 : Value) (ls1 : List (List Value)), Sep ⟨g, h, []⟩ g' h' [.sl 3 1 w1 ls1] → All2 ((rI .i64) g') ls1 r → Q (.ret w1) h') : WF PP w0 id_slices_Clone_int_int [x0_v] h Q := by
  obtain ⟨hb, M⟩ := gu_some M
  have e := Option.some.inj M; subst e
  have S := Sep.start sg ok
  obtain ⟨ls0, X, A⟩ := x0_F
  refine g_slices_Clone_int_int_wp _ ?_
  unfold g_slices_Clone_int_int_F
  cases X with
  | nil =>
    have hx : x0 = [] := List.length_eq_zero_iff.1 (by have := A.1; simpa using this.symm)
    subst hx
    refine nil_isnil ?_
    exact br_t (H _ _ _ _ (S.nilsl 3 1) (All2.nil (R := (rI .i64) g)))
  | mk b o m cap _ hn hc hs hr =>
    refine sl_isnil ?_
    refine br_f ?_
    unfold g_slices_Clone_int_int_J1
    refine S.bsl (sz := 1) [] rfl rfl (by decide) sz_nil rfl (fun v h S => ?_)
    refine S.app (SlR.mono S.sub (SlR.mk b o m cap _ hn hc hs hr)) (by rw [A.1]; simpa using hb) (by decide) rfl (all_one (one_I .i64) A) rfl (fun v h S => ?_)
    exact H _ _ _ _ S A
end
end
end Go.Ve.T
