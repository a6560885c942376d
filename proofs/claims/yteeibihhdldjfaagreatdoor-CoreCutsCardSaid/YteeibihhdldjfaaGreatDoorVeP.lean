/- Part 16: MADE BY A PROGRAM (lift.py): plain functions that the functions of the program compute, with the proofs that they do. No condition. And what follows it. -/
import Derived.Test.YteeibihhdldjfaaGreatDoorVeO
set_option linter.unusedVariables false
set_option linter.unusedSimpArgs false
namespace Go.Ve.T
open Go.Ve Go.Proofs
noncomputable section
set_option maxRecDepth 10000
def g_core_Cut_J17_M (N : Nat) (y99 : Int) (y101 : List Int) (y102 : Int) (k96_0 : G_api_Unit) (k96_1_c0 : ByteArray) (k96_1_c1 : ByteArray) (k96_1_c2 : Int) (k96_1_c3 : Int) (k96_1_c4 : Int) (k96_1_c5 : List G_api_Ins) (k96_1_c6 : List G_api_Guard) (k96_4 : G_api_Unit) (k96M : (List Int) → Int → Int → ByteArray → ByteArray → Int → Int → Int → (List G_api_Ins) → (List G_api_Guard) → Option (G_api_Unit × (List Int) × Int)) : Option (G_api_Unit × (List Int) × Int) :=
 k96M y101 y102 (wrapQ .i64 (y99 + 1)) k96_1_c0 k96_1_c1 k96_1_c2 k96_1_c3 k96_1_c4 k96_1_c5 k96_1_c6
def g_core_Cut_J16_M (N : Nat) (x1 : List Bool) (y99 : Int) (y98 : Int) (y97 : List Int) (k96_0 : G_api_Unit) (k96_1_c0 : ByteArray) (k96_1_c1 : ByteArray) (k96_1_c2 : Int) (k96_1_c3 : Int) (k96_1_c4 : Int) (k96_1_c5 : List G_api_Ins) (k96_1_c6 : List G_api_Guard) (k96_4 : G_api_Unit) (k96M : (List Int) → Int → Int → ByteArray → ByteArray → Int → Int → Int → (List G_api_Ins) → (List G_api_Guard) → Option (G_api_Unit × (List Int) × Int)) : Option (G_api_Unit × (List Int) × Int) :=
(ix x1 y99).bind fun c_12 =>
 gu (decide (y97.length + [y98].length ≤ 1048576)) (
 bif c_12 then (
 g_core_Cut_J17_M N y99 (y97 ++ [y98]) (wrapQ .i64 (y98 + 1)) k96_0 k96_1_c0 k96_1_c1 k96_1_c2 k96_1_c3 k96_1_c4 k96_1_c5 k96_1_c6 k96_4 k96M) else (
 g_core_Cut_J17_M N y99 (y97 ++ [y98]) y98 k96_0 k96_1_c0 k96_1_c1 k96_1_c2 k96_1_c3 k96_1_c4 k96_1_c5 k96_1_c6 k96_4 k96M))
def g_core_Cut_J11_M (N : Nat) (y60 : Int) (k59_0 : List Int) (k59_1_c0 : ByteArray) (k59_1_c1 : ByteArray) (k59_1_c2 : Int) (k59_1_c3 : Int) (k59_1_c4 : Int) (k59_1_c5 : List G_api_Ins) (k59_1_c6 : List G_api_Guard) (k59_4 : G_api_Unit) (k59_5 : G_api_Unit) (k59M : Int → ByteArray → ByteArray → Int → Int → Int → (List G_api_Ins) → (List G_api_Guard) → Option (G_api_Unit × (List Int) × Int)) : Option (G_api_Unit × (List Int) × Int) :=
 k59M (wrapQ .i64 (y60 + 1)) k59_1_c0 k59_1_c1 k59_1_c2 k59_1_c3 k59_1_c4 k59_1_c5 k59_1_c6
def g_core_Cut_J13_M (N : Nat) (v4_c0 : ByteArray) (v4_c1 : ByteArray) (v4_c2 : Int) (v4_c3 : Int) (v4_c4 : Int) (v4_c5 : List G_api_Ins) (v4_c6 : List G_api_Guard) (v65 : G_api_Ins) (y60 : Int) (k59_0 : List Int) (k59_4 : G_api_Unit) (k59_5 : G_api_Unit) (k59M : Int → ByteArray → ByteArray → Int → Int → Int → (List G_api_Ins) → (List G_api_Guard) → Option (G_api_Unit × (List Int) × Int)) : Option (G_api_Unit × (List Int) × Int) :=
 gu (decide (v4_c5.length + [v65].length ≤ 1048576)) (
 g_core_Cut_J11_M N y60 k59_0 v4_c0 v4_c1 v4_c2 v4_c3 v4_c4 (v4_c5 ++ [v65]) v4_c6 k59_4 k59_5 k59M)
def g_core_Cut_J14_M (N : Nat) (v65 : G_api_Ins) (y10 : List Int) (v4_c0 : ByteArray) (v4_c1 : ByteArray) (v4_c2 : Int) (v4_c3 : Int) (v4_c4 : Int) (v4_c5 : List G_api_Ins) (v4_c6 : List G_api_Guard) (y60 : Int) (y83 : Bool) (k59_4 : G_api_Unit) (k59_5 : G_api_Unit) (k59M : Int → ByteArray → ByteArray → Int → Int → Int → (List G_api_Ins) → (List G_api_Guard) → Option (G_api_Unit × (List Int) × Int)) : Option (G_api_Unit × (List Int) × Int) :=
 bif y83 then (
(ix y10 v65.fB).bind fun c_47 =>
 g_core_Cut_J13_M N v4_c0 v4_c1 v4_c2 v4_c3 v4_c4 v4_c5 v4_c6 (G_api_Ins.mk v65.fOp v65.fA c_47 v65.fC) y60 y10 k59_4 k59_5 k59M) else (
 g_core_Cut_J13_M N v4_c0 v4_c1 v4_c2 v4_c3 v4_c4 v4_c5 v4_c6 v65 y60 y10 k59_4 k59_5 k59M)
def g_core_Cut_J12_M (N : Nat) (v65 : G_api_Ins) (y10 : List Int) (v4_c0 : ByteArray) (v4_c1 : ByteArray) (v4_c2 : Int) (v4_c3 : Int) (v4_c4 : Int) (v4_c5 : List G_api_Ins) (v4_c6 : List G_api_Guard) (y60 : Int) (k59_4 : G_api_Unit) (k59_5 : G_api_Unit) (k59M : Int → ByteArray → ByteArray → Int → Int → Int → (List G_api_Ins) → (List G_api_Guard) → Option (G_api_Unit × (List Int) × Int)) : Option (G_api_Unit × (List Int) × Int) :=
 bif (decide (v65.fOp = 24)) then (
(ix y10 v65.fA).bind fun c_36 =>
 g_core_Cut_J13_M N v4_c0 v4_c1 v4_c2 v4_c3 v4_c4 v4_c5 v4_c6 (G_api_Ins.mk v65.fOp c_36 v65.fB v65.fC) y60 y10 k59_4 k59_5 k59M) else (
 bif (decide (v65.fOp = 25)) then (
 g_core_Cut_J14_M N v65 y10 v4_c0 v4_c1 v4_c2 v4_c3 v4_c4 v4_c5 v4_c6 y60 (decide (v65.fOp = 25)) k59_4 k59_5 k59M) else (
 g_core_Cut_J14_M N v65 y10 v4_c0 v4_c1 v4_c2 v4_c3 v4_c4 v4_c5 v4_c6 y60 (decide (v65.fOp = 32)) k59_4 k59_5 k59M))
def g_core_Cut_J10_M (N : Nat) (v57 : List G_api_Ins) (y60 : Int) (x1 : List Bool) (y10 : List Int) (v4_c0 : ByteArray) (v4_c1 : ByteArray) (v4_c2 : Int) (v4_c3 : Int) (v4_c4 : Int) (v4_c5 : List G_api_Ins) (v4_c6 : List G_api_Guard) (k59_4 : G_api_Unit) (k59_5 : G_api_Unit) (k59M : Int → ByteArray → ByteArray → Int → Int → Int → (List G_api_Ins) → (List G_api_Guard) → Option (G_api_Unit × (List Int) × Int)) : Option (G_api_Unit × (List Int) × Int) :=
(ix v57 y60).bind fun c_23 =>
(ix x1 y60).bind fun c_30 =>
 bif (!c_30) then (
 g_core_Cut_J11_M N y60 y10 v4_c0 v4_c1 v4_c2 v4_c3 v4_c4 v4_c5 v4_c6 k59_4 k59_5 k59M) else (
 g_core_Cut_J12_M N c_23 y10 v4_c0 v4_c1 v4_c2 v4_c3 v4_c4 v4_c5 v4_c6 y60 k59_4 k59_5 k59M)
def g_core_Cut_J8_M (N : Nat) (y22 : Int) (k21_0 : List Int) (k21_1_c0 : ByteArray) (k21_1_c1 : ByteArray) (k21_1_c2 : Int) (k21_1_c3 : Int) (k21_1_c4 : Int) (k21_1_c5 : List G_api_Ins) (k21_1_c6 : List G_api_Guard) (k21_4 : G_api_Unit) (k21M : Int → ByteArray → ByteArray → Int → Int → Int → (List G_api_Ins) → (List G_api_Guard) → Option (G_api_Unit × (List Int) × Int)) : Option (G_api_Unit × (List Int) × Int) :=
 k21M (wrapQ .i64 (y22 + 1)) k21_1_c0 k21_1_c1 k21_1_c2 k21_1_c3 k21_1_c4 k21_1_c5 k21_1_c6
def g_core_Cut_J7_M (N : Nat) (v19 : List G_api_Guard) (y22 : Int) (v14 : List Int) (y10 : List Int) (v4_c0 : ByteArray) (v4_c1 : ByteArray) (v4_c2 : Int) (v4_c3 : Int) (v4_c4 : Int) (v4_c5 : List G_api_Ins) (v4_c6 : List G_api_Guard) (k21_4 : G_api_Unit) (k21M : Int → ByteArray → ByteArray → Int → Int → Int → (List G_api_Ins) → (List G_api_Guard) → Option (G_api_Unit × (List Int) × Int)) : Option (G_api_Unit × (List Int) × Int) :=
(ix v19 y22).bind fun c_64 =>
(ix v14 c_64.fFrom).bind fun c_71 =>
(ix v14 c_64.fTo).bind fun c_77 =>
(ix y10 c_64.fAt).bind fun c_83 =>
 bif (decide (c_71 < c_77)) then (
 gu (decide (v4_c6.length + [(G_api_Guard.mk c_71 c_77 c_83)].length ≤ 1048576)) (
 g_core_Cut_J8_M N y22 v14 v4_c0 v4_c1 v4_c2 v4_c3 v4_c4 v4_c5 (v4_c6 ++ [(G_api_Guard.mk c_71 c_77 c_83)]) k21_4 k21M)) else (
 g_core_Cut_J8_M N y22 v14 v4_c0 v4_c1 v4_c2 v4_c3 v4_c4 v4_c5 v4_c6 k21_4 k21M)
def g_core_Cut_J5_M (N : Nat) (v4_c0 : ByteArray) (v4_c1 : ByteArray) (v4_c2 : Int) (v4_c3 : Int) (v4_c4 : Int) (v4_c5 : List G_api_Ins) (v4_c6 : List G_api_Guard) (v2 : G_api_Unit) (y10 : List Int)  : Option (G_api_Unit × (List Int) × Int) :=
 some ((G_api_Unit.mk v4_c0 v4_c1 v4_c2 v4_c3 v4_c4 v4_c5 v4_c6), y10, 0)
def g_core_Cut_L6_M (N : Nat) (v20 : Int) (v19 : List G_api_Guard) (v14 : List Int) (y10 : List Int) (v4_c0 : ByteArray) (v4_c1 : ByteArray) (v4_c2 : Int) (v4_c3 : Int) (v4_c4 : Int) (v4_c5 : List G_api_Ins) (v4_c6 : List G_api_Guard) (v2 : G_api_Unit) (y22 : Int) (k21M : Int → ByteArray → ByteArray → Int → Int → Int → (List G_api_Ins) → (List G_api_Guard) → Option (G_api_Unit × (List Int) × Int)) : Option (G_api_Unit × (List Int) × Int) :=
 bif (decide (y22 < v20)) then (
 g_core_Cut_J7_M N v19 y22 v14 y10 v4_c0 v4_c1 v4_c2 v4_c3 v4_c4 v4_c5 v4_c6 v2 k21M) else (
 g_core_Cut_J5_M N v4_c0 v4_c1 v4_c2 v4_c3 v4_c4 v4_c5 v4_c6 v2 y10)
def g_core_Cut_L6_I (N : Nat) (v20 : Int) (v19 : List G_api_Guard) (v14 : List Int) (y10 : List Int) (v2 : G_api_Unit)  : Nat → ByteArray → ByteArray → Int → Int → Int → (List G_api_Ins) → (List G_api_Guard) → Int → Option (G_api_Unit × (List Int) × Int)
  | 0, _, _, _, _, _, _, _, _ => none
  | n + 1, v4_c0, v4_c1, v4_c2, v4_c3, v4_c4, v4_c5, v4_c6, y22 => g_core_Cut_L6_M N v20 v19 v14 y10 v4_c0 v4_c1 v4_c2 v4_c3 v4_c4 v4_c5 v4_c6 v2 y22  (fun qy0 qo1_c0 qo1_c1 qo1_c2 qo1_c3 qo1_c4 qo1_c5 qo1_c6 => g_core_Cut_L6_I N v20 v19 v14 y10 v2 n qo1_c0 qo1_c1 qo1_c2 qo1_c3 qo1_c4 qo1_c5 qo1_c6 qy0)
def g_core_Cut_J4_M (N : Nat) (y10 : List Int) (y11 : Int) (v1 : G_api_Unit) (v4_c0 : ByteArray) (v4_c1 : ByteArray) (v4_c2 : Int) (v4_c3 : Int) (v4_c4 : Int) (v4_c5 : List G_api_Ins) (v4_c6 : List G_api_Guard) (v2 : G_api_Unit)  : Option (G_api_Unit × (List Int) × Int) :=
(slices_Clone_int_int_M y10).bind fun c_54 =>
 gu (decide (c_54.length + [y11].length ≤ 1048576)) (
 g_core_Cut_L6_I N (v1.fGuards.length : Int) v1.fGuards (c_54 ++ [y11]) y10 v2 N v4_c0 v4_c1 v4_c2 v4_c3 v4_c4 v4_c5 v4_c6 0)
def g_core_Cut_L9_M (N : Nat) (v58 : Int) (v57 : List G_api_Ins) (x1 : List Bool) (y10 : List Int) (v4_c0 : ByteArray) (v4_c1 : ByteArray) (v4_c2 : Int) (v4_c3 : Int) (v4_c4 : Int) (v4_c5 : List G_api_Ins) (v4_c6 : List G_api_Guard) (y11 : Int) (v1 : G_api_Unit) (v2 : G_api_Unit) (y60 : Int) (k59M : Int → ByteArray → ByteArray → Int → Int → Int → (List G_api_Ins) → (List G_api_Guard) → Option (G_api_Unit × (List Int) × Int)) : Option (G_api_Unit × (List Int) × Int) :=
 bif (decide (y60 < v58)) then (
 g_core_Cut_J10_M N v57 y60 x1 y10 v4_c0 v4_c1 v4_c2 v4_c3 v4_c4 v4_c5 v4_c6 v1 v2 k59M) else (
 g_core_Cut_J4_M N y10 y11 v1 v4_c0 v4_c1 v4_c2 v4_c3 v4_c4 v4_c5 v4_c6 v2)
def g_core_Cut_L9_I (N : Nat) (v58 : Int) (v57 : List G_api_Ins) (x1 : List Bool) (y10 : List Int) (y11 : Int) (v1 : G_api_Unit) (v2 : G_api_Unit)  : Nat → ByteArray → ByteArray → Int → Int → Int → (List G_api_Ins) → (List G_api_Guard) → Int → Option (G_api_Unit × (List Int) × Int)
  | 0, _, _, _, _, _, _, _, _ => none
  | n + 1, v4_c0, v4_c1, v4_c2, v4_c3, v4_c4, v4_c5, v4_c6, y60 => g_core_Cut_L9_M N v58 v57 x1 y10 v4_c0 v4_c1 v4_c2 v4_c3 v4_c4 v4_c5 v4_c6 y11 v1 v2 y60  (fun qy0 qo1_c0 qo1_c1 qo1_c2 qo1_c3 qo1_c4 qo1_c5 qo1_c6 => g_core_Cut_L9_I N v58 v57 x1 y10 y11 v1 v2 n qo1_c0 qo1_c1 qo1_c2 qo1_c3 qo1_c4 qo1_c5 qo1_c6 qy0)
def g_core_Cut_J3_M (N : Nat) (v1 : G_api_Unit) (x1 : List Bool) (v4_c0 : ByteArray) (v4_c1 : ByteArray) (v4_c2 : Int) (v4_c3 : Int) (v4_c4 : Int) (v4_c5 : List G_api_Ins) (v4_c6 : List G_api_Guard) (v2 : G_api_Unit) (y10 : List Int) (y11 : Int)  : Option (G_api_Unit × (List Int) × Int) :=
 g_core_Cut_L9_I N (v1.fCode.length : Int) v1.fCode x1 y10 y11 v1 v2 N v4_c0 v4_c1 v4_c2 v4_c3 v4_c4 v4_c5 v4_c6 0
def g_core_Cut_L15_M (N : Nat) (v95 : Int) (x1 : List Bool) (v1 : G_api_Unit) (v4_c0 : ByteArray) (v4_c1 : ByteArray) (v4_c2 : Int) (v4_c3 : Int) (v4_c4 : Int) (v4_c5 : List G_api_Ins) (v4_c6 : List G_api_Guard) (v2 : G_api_Unit) (y97 : List Int) (y98 : Int) (y99 : Int) (k96M : (List Int) → Int → Int → ByteArray → ByteArray → Int → Int → Int → (List G_api_Ins) → (List G_api_Guard) → Option (G_api_Unit × (List Int) × Int)) : Option (G_api_Unit × (List Int) × Int) :=
 bif (decide (y99 < v95)) then (
 g_core_Cut_J16_M N x1 y99 y98 y97 v1 v4_c0 v4_c1 v4_c2 v4_c3 v4_c4 v4_c5 v4_c6 v2 k96M) else (
 g_core_Cut_J3_M N v1 x1 v4_c0 v4_c1 v4_c2 v4_c3 v4_c4 v4_c5 v4_c6 v2 y97 y98)
def g_core_Cut_L15_I (N : Nat) (v95 : Int) (x1 : List Bool) (v1 : G_api_Unit) (v2 : G_api_Unit)  : Nat → ByteArray → ByteArray → Int → Int → Int → (List G_api_Ins) → (List G_api_Guard) → (List Int) → Int → Int → Option (G_api_Unit × (List Int) × Int)
  | 0, _, _, _, _, _, _, _, _, _, _ => none
  | n + 1, v4_c0, v4_c1, v4_c2, v4_c3, v4_c4, v4_c5, v4_c6, y97, y98, y99 => g_core_Cut_L15_M N v95 x1 v1 v4_c0 v4_c1 v4_c2 v4_c3 v4_c4 v4_c5 v4_c6 v2 y97 y98 y99  (fun qy0 qy1 qy2 qo1_c0 qo1_c1 qo1_c2 qo1_c3 qo1_c4 qo1_c5 qo1_c6 => g_core_Cut_L15_I N v95 x1 v1 v2 n qo1_c0 qo1_c1 qo1_c2 qo1_c3 qo1_c4 qo1_c5 qo1_c6 qy0 qy1 qy2)
def g_core_Cut_J2_M (N : Nat) (v1 : G_api_Unit) (x1 : List Bool) (v2 : G_api_Unit)  : Option (G_api_Unit × (List Int) × Int) :=
 g_core_Cut_L15_I N (x1.length : Int) x1 v1 v2 N v1.fClass v1.fName v1.fArgs v1.fSlots v1.fFrame ([] : List G_api_Ins) ([] : List G_api_Guard) ([] : List Int) 0 0
def g_core_Cut_J1_M (N : Nat) (x1 : List Bool) (v2 : G_api_Unit) (v1 : G_api_Unit)  : Option (G_api_Unit × (List Int) × Int) :=
(ix x1 (wrapQ .i64 ((x1.length : Int) - 1))).bind fun c_5 =>
 bif (!c_5) then (
 some ((G_api_Unit.mk (⟨⟨[]⟩⟩ : ByteArray) (⟨⟨[]⟩⟩ : ByteArray) 0 0 0 ([] : List G_api_Ins) ([] : List G_api_Guard)), ([] : List Int), 2)) else (
 g_core_Cut_J2_M N v1 x1 v2)
def g_core_Cut_P1_M (N : Nat) (v2 : G_api_Unit) (x1 : List Bool) (v1 : G_api_Unit) (v126 : Bool)  : Option (G_api_Unit × (List Int) × Int) :=
 bif v126 then (
 some ((G_api_Unit.mk (⟨⟨[]⟩⟩ : ByteArray) (⟨⟨[]⟩⟩ : ByteArray) 0 0 0 ([] : List G_api_Ins) ([] : List G_api_Guard)), ([] : List Int), 1)) else (
 g_core_Cut_J1_M N x1 v2 v1)
def core_Cut_M (N : Nat) (x0 : G_api_Unit) (x1 : List Bool) : Option (G_api_Unit × (List Int) × Int) :=
(core_plain_M N x0).bind fun c_3 =>
 bif (!c_3) then (
 g_core_Cut_P1_M N (G_api_Unit.mk (⟨⟨[]⟩⟩ : ByteArray) (⟨⟨[]⟩⟩ : ByteArray) 0 0 0 ([] : List G_api_Ins) ([] : List G_api_Guard)) x1 x0 true) else (
 g_core_Cut_P1_M N (G_api_Unit.mk (⟨⟨[]⟩⟩ : ByteArray) (⟨⟨[]⟩⟩ : ByteArray) 0 0 0 ([] : List G_api_Ins) ([] : List G_api_Guard)) x1 x0 (!decide ((x1.length : Int) = (x0.fCode.length : Int))))
abbrev core_Cut_H (c : Cx) (R : Value → W) (r : G_api_Unit × (List Int) × Int) : Prop := ∀ (g' h' : AH) (w1 : Value) (w2 : Value) (w3 : Value), Sep c g' h' [] → FzS G_api_Ins.rep 4 g' w1 r.1.fCode → FzS G_api_Guard.rep 3 g' w2 r.1.fGuards → FzS (rI .i64) 1 g' w3 r.2.1 → R (.tuple ⟨[(.agg ⟨[(.string r.1.fClass), (.string r.1.fName), (vi r.1.fArgs), (vi r.1.fSlots), (vi r.1.fFrame), w1, w2]⟩), w3, (vi r.2.2)]⟩) h'
theorem g_core_Cut_J17_lf {w0 : World} {c : Cx} {g h : AH} {E R : Value → W} {r : G_api_Unit × (List Int) × Int} {N : Nat} {y99 : Int} {y101 : List Int} {y102 : Int} {k96_0 : G_api_Unit} {k96_1_c0 k96_1_c1 : ByteArray} {k96_1_c2 k96_1_c3 k96_1_c4 : Int} {k96_1_c5 : List G_api_Ins} {k96_1_c6 : List G_api_Guard} {k96_4 : G_api_Unit} {y101_v : Value} {y101_ls : List (List Value)} {k96_0_b : Nat} {k96_0_w1 k96_0_w2 : Value} {k96_1_b : Nat} {k96_1_c5_v : Value} {k96_1_c5_ls : List (List Value)} {k96_1_c6_v : Value} {k96_1_c6_ls : List (List Value)} {k96_4_b : Nat} {k96_4_w1 k96_4_w2 : Value} {k96 : Value → Value → Value → W} {k96M : (List Int) → Int → Int → ByteArray → ByteArray → Int → Int → Int → (List G_api_Ins) → (List G_api_Guard) → Option (G_api_Unit × (List Int) × Int)} {gbk96 : AH} (M : g_core_Cut_J17_M N y99 y101 y102 k96_0 k96_1_c0 k96_1_c1 k96_1_c2 k96_1_c3 k96_1_c4 k96_1_c5 k96_1_c6 k96_4 k96M = some r) (S : Sep c g h [.sl 3 1 y101_v y101_ls, .bx k96_0_b [(.string k96_0.fClass), (.string k96_0.fName), (vi k96_0.fArgs), (vi k96_0.fSlots), (vi k96_0.fFrame), k96_0_w1, k96_0_w2], .bx k96_1_b [(.string k96_1_c0), (.string k96_1_c1), (vi k96_1_c2), (vi k96_1_c3), (vi k96_1_c4), k96_1_c5_v, k96_1_c6_v], .sl 67 4 k96_1_c5_v k96_1_c5_ls, .sl 79 3 k96_1_c6_v k96_1_c6_ls, .bx k96_4_b [(.string k96_4.fClass), (.string k96_4.fName), (vi k96_4.fArgs), (vi k96_4.fSlots), (vi k96_4.fFrame), k96_4_w1, k96_4_w2]]) (y101_A : All2 ((rI .i64) g) y101_ls y101) (k96_0_F1 : FzS G_api_Ins.rep 4 g k96_0_w1 k96_0.fCode) (k96_0_F2 : FzS G_api_Guard.rep 3 g k96_0_w2 k96_0.fGuards) (k96_1_c5_A : All2 (G_api_Ins.rep g) k96_1_c5_ls k96_1_c5) (k96_1_c6_A : All2 (G_api_Guard.rep g) k96_1_c6_ls k96_1_c6) (k96_4_F1 : FzS G_api_Ins.rep 4 g k96_4_w1 k96_4.fCode) (k96_4_F2 : FzS G_api_Guard.rep 3 g k96_4_w2 k96_4.fGuards) (sbk96 : Sub gbk96 g) (Hk96 : ∀ {qy0 : List Int} {qy0_v : Value} {qy0_ls : List (List Value)} {qy1 qy2 : Int} {qo1_c0 qo1_c1 : ByteArray} {qo1_c2 qo1_c3 qo1_c4 : Int} {qo1_c5 : List G_api_Ins} {qo1_c5_v : Value} {qo1_c5_ls : List (List Value)} {qo1_c6 : List G_api_Guard} {qo1_c6_v : Value} {qo1_c6_ls : List (List Value)} {g2 h2 : AH}, k96M qy0 qy1 qy2 qo1_c0 qo1_c1 qo1_c2 qo1_c3 qo1_c4 qo1_c5 qo1_c6 = some r → Sub gbk96 g2 → Sep c g2 h2 [.bx k96_0_b [(.string k96_0.fClass), (.string k96_0.fName), (vi k96_0.fArgs), (vi k96_0.fSlots), (vi k96_0.fFrame), k96_0_w1, k96_0_w2], .bx k96_1_b [(.string qo1_c0), (.string qo1_c1), (vi qo1_c2), (vi qo1_c3), (vi qo1_c4), qo1_c5_v, qo1_c6_v], .sl 67 4 qo1_c5_v qo1_c5_ls, .sl 79 3 qo1_c6_v qo1_c6_ls, .bx k96_4_b [(.string k96_4.fClass), (.string k96_4.fName), (vi k96_4.fArgs), (vi k96_4.fSlots), (vi k96_4.fFrame), k96_4_w1, k96_4_w2], .sl 3 1 qy0_v qy0_ls] → All2 ((rI .i64) g2) qy0_ls qy0 → All2 (G_api_Ins.rep g2) qo1_c5_ls qo1_c5 → All2 (G_api_Guard.rep g2) qo1_c6_ls qo1_c6 → k96 qy0_v (vi qy1) (vi qy2) h2) (H : core_Cut_H c R r) : g_core_Cut_J17 w0 E R (vi y99) k96 y101_v (vi y102) h := by
  unfold g_core_Cut_J17
  unfold g_core_Cut_J17_M at M
  refine WP_add.2 ?_
  have S := S.f5
  have S := S.f5
  have S := S.f5
  have S := S.f5
  have S := S.f5
  exact Hk96 M sbk96 S y101_A k96_1_c5_A k96_1_c6_A
theorem g_core_Cut_J16_lf {w0 : World} {c : Cx} {g h : AH} {E R : Value → W} {r : G_api_Unit × (List Int) × Int} {N : Nat} {x1 : List Bool} {y99 y98 : Int} {y97 : List Int} {k96_0 : G_api_Unit} {k96_1_c0 k96_1_c1 : ByteArray} {k96_1_c2 k96_1_c3 k96_1_c4 : Int} {k96_1_c5 : List G_api_Ins} {k96_1_c6 : List G_api_Guard} {k96_4 : G_api_Unit} {x1_v y97_v : Value} {y97_ls : List (List Value)} {k96_0_b : Nat} {k96_0_w1 k96_0_w2 : Value} {k96_1_b : Nat} {k96_1_c5_v : Value} {k96_1_c5_ls : List (List Value)} {k96_1_c6_v : Value} {k96_1_c6_ls : List (List Value)} {k96_4_b : Nat} {k96_4_w1 k96_4_w2 : Value} {k96 : Value → Value → Value → W} {k96M : (List Int) → Int → Int → ByteArray → ByteArray → Int → Int → Int → (List G_api_Ins) → (List G_api_Guard) → Option (G_api_Unit × (List Int) × Int)} {gbk96 : AH} (M : g_core_Cut_J16_M N x1 y99 y98 y97 k96_0 k96_1_c0 k96_1_c1 k96_1_c2 k96_1_c3 k96_1_c4 k96_1_c5 k96_1_c6 k96_4 k96M = some r) (S : Sep c g h [.sl 3 1 y97_v y97_ls, .bx k96_0_b [(.string k96_0.fClass), (.string k96_0.fName), (vi k96_0.fArgs), (vi k96_0.fSlots), (vi k96_0.fFrame), k96_0_w1, k96_0_w2], .bx k96_1_b [(.string k96_1_c0), (.string k96_1_c1), (vi k96_1_c2), (vi k96_1_c3), (vi k96_1_c4), k96_1_c5_v, k96_1_c6_v], .sl 67 4 k96_1_c5_v k96_1_c5_ls, .sl 79 3 k96_1_c6_v k96_1_c6_ls, .bx k96_4_b [(.string k96_4.fClass), (.string k96_4.fName), (vi k96_4.fArgs), (vi k96_4.fSlots), (vi k96_4.fFrame), k96_4_w1, k96_4_w2]]) (x1_F : FzS rB 1 g x1_v x1) (y97_A : All2 ((rI .i64) g) y97_ls y97) (k96_0_F1 : FzS G_api_Ins.rep 4 g k96_0_w1 k96_0.fCode) (k96_0_F2 : FzS G_api_Guard.rep 3 g k96_0_w2 k96_0.fGuards) (k96_1_c5_A : All2 (G_api_Ins.rep g) k96_1_c5_ls k96_1_c5) (k96_1_c6_A : All2 (G_api_Guard.rep g) k96_1_c6_ls k96_1_c6) (k96_4_F1 : FzS G_api_Ins.rep 4 g k96_4_w1 k96_4.fCode) (k96_4_F2 : FzS G_api_Guard.rep 3 g k96_4_w2 k96_4.fGuards) (sbk96 : Sub gbk96 g) (Hk96 : ∀ {qy0 : List Int} {qy0_v : Value} {qy0_ls : List (List Value)} {qy1 qy2 : Int} {qo1_c0 qo1_c1 : ByteArray} {qo1_c2 qo1_c3 qo1_c4 : Int} {qo1_c5 : List G_api_Ins} {qo1_c5_v : Value} {qo1_c5_ls : List (List Value)} {qo1_c6 : List G_api_Guard} {qo1_c6_v : Value} {qo1_c6_ls : List (List Value)} {g2 h2 : AH}, k96M qy0 qy1 qy2 qo1_c0 qo1_c1 qo1_c2 qo1_c3 qo1_c4 qo1_c5 qo1_c6 = some r → Sub gbk96 g2 → Sep c g2 h2 [.bx k96_0_b [(.string k96_0.fClass), (.string k96_0.fName), (vi k96_0.fArgs), (vi k96_0.fSlots), (vi k96_0.fFrame), k96_0_w1, k96_0_w2], .bx k96_1_b [(.string qo1_c0), (.string qo1_c1), (vi qo1_c2), (vi qo1_c3), (vi qo1_c4), qo1_c5_v, qo1_c6_v], .sl 67 4 qo1_c5_v qo1_c5_ls, .sl 79 3 qo1_c6_v qo1_c6_ls, .bx k96_4_b [(.string k96_4.fClass), (.string k96_4.fName), (vi k96_4.fArgs), (vi k96_4.fSlots), (vi k96_4.fFrame), k96_4_w1, k96_4_w2], .sl 3 1 qy0_v qy0_ls] → All2 ((rI .i64) g2) qy0_ls qy0 → All2 (G_api_Ins.rep g2) qo1_c5_ls qo1_c5 → All2 (G_api_Guard.rep g2) qo1_c6_ls qo1_c6 → k96 qy0_v (vi qy1) (vi qy2) h2) (H : core_Cut_H c R r) : g_core_Cut_J16 w0 E R x1_v (vi y99) (vi y98) y97_v k96 h := by
  unfold g_core_Cut_J16
  unfold g_core_Cut_J16_M at M
  obtain ⟨c_12, hx_13, M⟩ := bind_some M
  refine FzS.idx x1_F hx_13 (fun b_14 o_15 vs E_17 r_16 rp => ?_)
  cases rp
  refine S.fld1 (r_16 0 _ rfl) ?_
  refine S.bsl [[(vi y98)]] (fillL_step (m := [(vi y98)]) (l2 := [(vi y98)]) rfl rfl (Nat.le_of_ble_eq_true rfl) rfl rfl) rfl (by decide) (sz_cons rfl sz_nil) (one_cons rfl rfl) (fun v_18 h S => ?_)
  have A_19 : All2 ((rI .i64) g) [[(vi y98)]] [y98] := (All2.push All2.nil (show (rI .i64) g [(vi y98)] y98 from rfl))
  have S := S.f1
  obtain ⟨hb_22, M⟩ := gu_some M
  refine S.app (S.rd 1 rfl) (by rw [y97_A.1, A_19.1]; exact hb_22) (by decide) rfl (all_one (one_I .i64) A_19) (all_one (one_I .i64) y97_A) (fun v_20 h S => ?_)
  have A_21 : All2 ((rI .i64) g) (y97_ls ++ [[(vi y98)]]) (y97 ++ [y98]) := All2.append y97_A A_19
  refine br_lf (fun hc => ?_) (fun hc => ?_)
  · have M := cond_T hc M
    refine WP_add.2 ?_
    have S := S.f6
    have S := S.f6
    have S := S.f6
    have S := S.f6
    have S := S.f6
    have S := S.f5
    have S := S.t6
    exact g_core_Cut_J17_lf M S A_21 k96_0_F1 k96_0_F2 k96_1_c5_A k96_1_c6_A k96_4_F1 k96_4_F2 sbk96 Hk96 H
  · have M := cond_F hc M
    have S := S.f6
    have S := S.f6
    have S := S.f6
    have S := S.f6
    have S := S.f6
    have S := S.f5
    have S := S.t6
    exact g_core_Cut_J17_lf M S A_21 k96_0_F1 k96_0_F2 k96_1_c5_A k96_1_c6_A k96_4_F1 k96_4_F2 sbk96 Hk96 H
theorem g_core_Cut_J11_lf {w0 : World} {c : Cx} {g h : AH} {E R : Value → W} {r : G_api_Unit × (List Int) × Int} {N : Nat} {y60 : Int} {k59_0 : List Int} {k59_1_c0 k59_1_c1 : ByteArray} {k59_1_c2 k59_1_c3 k59_1_c4 : Int} {k59_1_c5 : List G_api_Ins} {k59_1_c6 : List G_api_Guard} {k59_4 k59_5 : G_api_Unit} {k59_0_v : Value} {k59_0_ls : List (List Value)} {k59_1_b : Nat} {k59_1_c5_v : Value} {k59_1_c5_ls : List (List Value)} {k59_1_c6_v : Value} {k59_1_c6_ls : List (List Value)} {k59_4_b : Nat} {k59_4_w1 k59_4_w2 : Value} {k59_5_b : Nat} {k59_5_w1 k59_5_w2 : Value} {k59 : Value → W} {k59M : Int → ByteArray → ByteArray → Int → Int → Int → (List G_api_Ins) → (List G_api_Guard) → Option (G_api_Unit × (List Int) × Int)} {gbk59 : AH} (M : g_core_Cut_J11_M N y60 k59_0 k59_1_c0 k59_1_c1 k59_1_c2 k59_1_c3 k59_1_c4 k59_1_c5 k59_1_c6 k59_4 k59_5 k59M = some r) (S : Sep c g h [.sl 3 1 k59_0_v k59_0_ls, .bx k59_1_b [(.string k59_1_c0), (.string k59_1_c1), (vi k59_1_c2), (vi k59_1_c3), (vi k59_1_c4), k59_1_c5_v, k59_1_c6_v], .sl 67 4 k59_1_c5_v k59_1_c5_ls, .sl 79 3 k59_1_c6_v k59_1_c6_ls, .bx k59_4_b [(.string k59_4.fClass), (.string k59_4.fName), (vi k59_4.fArgs), (vi k59_4.fSlots), (vi k59_4.fFrame), k59_4_w1, k59_4_w2], .bx k59_5_b [(.string k59_5.fClass), (.string k59_5.fName), (vi k59_5.fArgs), (vi k59_5.fSlots), (vi k59_5.fFrame), k59_5_w1, k59_5_w2]]) (k59_0_A : All2 ((rI .i64) g) k59_0_ls k59_0) (k59_1_c5_A : All2 (G_api_Ins.rep g) k59_1_c5_ls k59_1_c5) (k59_1_c6_A : All2 (G_api_Guard.rep g) k59_1_c6_ls k59_1_c6) (k59_4_F1 : FzS G_api_Ins.rep 4 g k59_4_w1 k59_4.fCode) (k59_4_F2 : FzS G_api_Guard.rep 3 g k59_4_w2 k59_4.fGuards) (k59_5_F1 : FzS G_api_Ins.rep 4 g k59_5_w1 k59_5.fCode) (k59_5_F2 : FzS G_api_Guard.rep 3 g k59_5_w2 k59_5.fGuards) (sbk59 : Sub gbk59 g) (Hk59 : ∀ {qy0 : Int} {qo1_c0 qo1_c1 : ByteArray} {qo1_c2 qo1_c3 qo1_c4 : Int} {qo1_c5 : List G_api_Ins} {qo1_c5_v : Value} {qo1_c5_ls : List (List Value)} {qo1_c6 : List G_api_Guard} {qo1_c6_v : Value} {qo1_c6_ls : List (List Value)} {g2 h2 : AH}, k59M qy0 qo1_c0 qo1_c1 qo1_c2 qo1_c3 qo1_c4 qo1_c5 qo1_c6 = some r → Sub gbk59 g2 → Sep c g2 h2 [.sl 3 1 k59_0_v k59_0_ls, .bx k59_1_b [(.string qo1_c0), (.string qo1_c1), (vi qo1_c2), (vi qo1_c3), (vi qo1_c4), qo1_c5_v, qo1_c6_v], .sl 67 4 qo1_c5_v qo1_c5_ls, .sl 79 3 qo1_c6_v qo1_c6_ls, .bx k59_4_b [(.string k59_4.fClass), (.string k59_4.fName), (vi k59_4.fArgs), (vi k59_4.fSlots), (vi k59_4.fFrame), k59_4_w1, k59_4_w2], .bx k59_5_b [(.string k59_5.fClass), (.string k59_5.fName), (vi k59_5.fArgs), (vi k59_5.fSlots), (vi k59_5.fFrame), k59_5_w1, k59_5_w2]] → All2 (G_api_Ins.rep g2) qo1_c5_ls qo1_c5 → All2 (G_api_Guard.rep g2) qo1_c6_ls qo1_c6 → k59 (vi qy0) h2) (H : core_Cut_H c R r) : g_core_Cut_J11 w0 E R (vi y60) k59 h := by
  unfold g_core_Cut_J11
  unfold g_core_Cut_J11_M at M
  refine WP_add.2 ?_
  exact Hk59 M sbk59 S k59_1_c5_A k59_1_c6_A
theorem g_core_Cut_J13_lf {w0 : World} {c : Cx} {g h : AH} {E R : Value → W} {r : G_api_Unit × (List Int) × Int} {N : Nat} {v4_c0 v4_c1 : ByteArray} {v4_c2 v4_c3 v4_c4 : Int} {v4_c5 : List G_api_Ins} {v4_c6 : List G_api_Guard} {v65 : G_api_Ins} {y60 : Int} {k59_0 : List Int} {k59_4 k59_5 : G_api_Unit} {v4_b : Nat} {v4_c5_v : Value} {v4_c5_ls : List (List Value)} {v4_c6_v : Value} {v4_c6_ls : List (List Value)} {v65_b : Nat} {k59_0_v : Value} {k59_0_ls : List (List Value)} {k59_4_b : Nat} {k59_4_w1 k59_4_w2 : Value} {k59_5_b : Nat} {k59_5_w1 k59_5_w2 : Value} {k59 : Value → W} {k59M : Int → ByteArray → ByteArray → Int → Int → Int → (List G_api_Ins) → (List G_api_Guard) → Option (G_api_Unit × (List Int) × Int)} {gbk59 : AH} (M : g_core_Cut_J13_M N v4_c0 v4_c1 v4_c2 v4_c3 v4_c4 v4_c5 v4_c6 v65 y60 k59_0 k59_4 k59_5 k59M = some r) (S : Sep c g h [.bx v4_b [(.string v4_c0), (.string v4_c1), (vi v4_c2), (vi v4_c3), (vi v4_c4), v4_c5_v, v4_c6_v], .sl 67 4 v4_c5_v v4_c5_ls, .sl 79 3 v4_c6_v v4_c6_ls, .bx v65_b [(vi v65.fOp), (vi v65.fA), (vi v65.fB), (vi v65.fC)], .sl 3 1 k59_0_v k59_0_ls, .bx k59_4_b [(.string k59_4.fClass), (.string k59_4.fName), (vi k59_4.fArgs), (vi k59_4.fSlots), (vi k59_4.fFrame), k59_4_w1, k59_4_w2], .bx k59_5_b [(.string k59_5.fClass), (.string k59_5.fName), (vi k59_5.fArgs), (vi k59_5.fSlots), (vi k59_5.fFrame), k59_5_w1, k59_5_w2]]) (v4_c5_A : All2 (G_api_Ins.rep g) v4_c5_ls v4_c5) (v4_c6_A : All2 (G_api_Guard.rep g) v4_c6_ls v4_c6) (k59_0_A : All2 ((rI .i64) g) k59_0_ls k59_0) (k59_4_F1 : FzS G_api_Ins.rep 4 g k59_4_w1 k59_4.fCode) (k59_4_F2 : FzS G_api_Guard.rep 3 g k59_4_w2 k59_4.fGuards) (k59_5_F1 : FzS G_api_Ins.rep 4 g k59_5_w1 k59_5.fCode) (k59_5_F2 : FzS G_api_Guard.rep 3 g k59_5_w2 k59_5.fGuards) (sbk59 : Sub gbk59 g) (Hk59 : ∀ {qy0 : Int} {qo1_c0 qo1_c1 : ByteArray} {qo1_c2 qo1_c3 qo1_c4 : Int} {qo1_c5 : List G_api_Ins} {qo1_c5_v : Value} {qo1_c5_ls : List (List Value)} {qo1_c6 : List G_api_Guard} {qo1_c6_v : Value} {qo1_c6_ls : List (List Value)} {g2 h2 : AH}, k59M qy0 qo1_c0 qo1_c1 qo1_c2 qo1_c3 qo1_c4 qo1_c5 qo1_c6 = some r → Sub gbk59 g2 → Sep c g2 h2 [.sl 3 1 k59_0_v k59_0_ls, .bx v4_b [(.string qo1_c0), (.string qo1_c1), (vi qo1_c2), (vi qo1_c3), (vi qo1_c4), qo1_c5_v, qo1_c6_v], .sl 67 4 qo1_c5_v qo1_c5_ls, .sl 79 3 qo1_c6_v qo1_c6_ls, .bx k59_4_b [(.string k59_4.fClass), (.string k59_4.fName), (vi k59_4.fArgs), (vi k59_4.fSlots), (vi k59_4.fFrame), k59_4_w1, k59_4_w2], .bx k59_5_b [(.string k59_5.fClass), (.string k59_5.fName), (vi k59_5.fArgs), (vi k59_5.fSlots), (vi k59_5.fFrame), k59_5_w1, k59_5_w2]] → All2 (G_api_Ins.rep g2) qo1_c5_ls qo1_c5 → All2 (G_api_Guard.rep g2) qo1_c6_ls qo1_c6 → k59 (vi qy0) h2) (H : core_Cut_H c R r) : g_core_Cut_J13 w0 E R (mkP v4_b 0) (mkP v65_b 0) (vi y60) k59 h := by
  unfold g_core_Cut_J13
  unfold g_core_Cut_J13_M at M
  refine WP_fieldAddr.2 ?_
  refine S.bld1 0 rfl rfl ?_
  refine S.bldN [(vi v65.fOp), (vi v65.fA), (vi v65.fB), (vi v65.fC)] 3 rfl rfl rfl (by decide) ?_
  refine S.bsl [[(vi v65.fOp), (vi v65.fA), (vi v65.fB), (vi v65.fC)]] (fillL_step (m := [(vi v65.fOp), (vi v65.fA), (vi v65.fB), (vi v65.fC)]) (l2 := [(vi v65.fOp), (vi v65.fA), (vi v65.fB), (vi v65.fC)]) rfl rfl (Nat.le_of_ble_eq_true rfl) rfl rfl) rfl (by decide) (sz_cons rfl sz_nil) (one_cons rfl (one_cons rfl (one_cons rfl (one_cons rfl rfl)))) (fun v_42 h S => ?_)
  have A_43 : All2 (G_api_Ins.rep g) [[(vi v65.fOp), (vi v65.fA), (vi v65.fB), (vi v65.fC)]] [v65] := (All2.push All2.nil (show G_api_Ins.rep g [(vi v65.fOp), (vi v65.fA), (vi v65.fB), (vi v65.fC)] v65 from rfl))
  have S := S.f2
  obtain ⟨hb_46, M⟩ := gu_some M
  refine S.app (S.rd 1 rfl) (by rw [v4_c5_A.1, A_43.1]; exact hb_46) (by decide) rfl (all_one G_api_Ins.one A_43) (all_one G_api_Ins.one v4_c5_A) (fun v_44 h S => ?_)
  have A_45 : All2 (G_api_Ins.rep g) (v4_c5_ls ++ [[(vi v65.fOp), (vi v65.fA), (vi v65.fB), (vi v65.fC)]]) (v4_c5 ++ [v65]) := All2.append v4_c5_A A_43
  refine WP_fieldAddr.2 ?_
  have S := S.f2
  refine S.bst [v_44] [(.string v4_c0), (.string v4_c1), (vi v4_c2), (vi v4_c3), (vi v4_c4), v_44, v4_c6_v] (cellsOf_one (S.own1 1 rfl)) rfl (one_cons (S.own1 1 rfl) rfl) (Nat.le_of_ble_eq_true rfl) rfl (fun h S => ?_)
  have S := S.f7
  have S := S.f7
  have S := S.f5
  have S := S.f4
  have S := S.f4
  have S := S.f7
  have S := S.t6
  exact g_core_Cut_J11_lf M S k59_0_A A_45 v4_c6_A k59_4_F1 k59_4_F2 k59_5_F1 k59_5_F2 sbk59 Hk59 H
theorem g_core_Cut_J14_lf {w0 : World} {c : Cx} {g h : AH} {E R : Value → W} {r : G_api_Unit × (List Int) × Int} {N : Nat} {v65 : G_api_Ins} {y10 : List Int} {v4_c0 v4_c1 : ByteArray} {v4_c2 v4_c3 v4_c4 : Int} {v4_c5 : List G_api_Ins} {v4_c6 : List G_api_Guard} {y60 : Int} {y83 : Bool} {k59_4 k59_5 : G_api_Unit} {v65_b : Nat} {y10_v : Value} {y10_ls : List (List Value)} {v4_b : Nat} {v4_c5_v : Value} {v4_c5_ls : List (List Value)} {v4_c6_v : Value} {v4_c6_ls : List (List Value)} {k59_4_b : Nat} {k59_4_w1 k59_4_w2 : Value} {k59_5_b : Nat} {k59_5_w1 k59_5_w2 : Value} {k59 : Value → W} {k59M : Int → ByteArray → ByteArray → Int → Int → Int → (List G_api_Ins) → (List G_api_Guard) → Option (G_api_Unit × (List Int) × Int)} {gbk59 : AH} (M : g_core_Cut_J14_M N v65 y10 v4_c0 v4_c1 v4_c2 v4_c3 v4_c4 v4_c5 v4_c6 y60 y83 k59_4 k59_5 k59M = some r) (S : Sep c g h [.bx v65_b [(vi v65.fOp), (vi v65.fA), (vi v65.fB), (vi v65.fC)], .sl 3 1 y10_v y10_ls, .bx v4_b [(.string v4_c0), (.string v4_c1), (vi v4_c2), (vi v4_c3), (vi v4_c4), v4_c5_v, v4_c6_v], .sl 67 4 v4_c5_v v4_c5_ls, .sl 79 3 v4_c6_v v4_c6_ls, .bx k59_4_b [(.string k59_4.fClass), (.string k59_4.fName), (vi k59_4.fArgs), (vi k59_4.fSlots), (vi k59_4.fFrame), k59_4_w1, k59_4_w2], .bx k59_5_b [(.string k59_5.fClass), (.string k59_5.fName), (vi k59_5.fArgs), (vi k59_5.fSlots), (vi k59_5.fFrame), k59_5_w1, k59_5_w2]]) (y10_A : All2 ((rI .i64) g) y10_ls y10) (v4_c5_A : All2 (G_api_Ins.rep g) v4_c5_ls v4_c5) (v4_c6_A : All2 (G_api_Guard.rep g) v4_c6_ls v4_c6) (k59_4_F1 : FzS G_api_Ins.rep 4 g k59_4_w1 k59_4.fCode) (k59_4_F2 : FzS G_api_Guard.rep 3 g k59_4_w2 k59_4.fGuards) (k59_5_F1 : FzS G_api_Ins.rep 4 g k59_5_w1 k59_5.fCode) (k59_5_F2 : FzS G_api_Guard.rep 3 g k59_5_w2 k59_5.fGuards) (sbk59 : Sub gbk59 g) (Hk59 : ∀ {qy0 : Int} {qo1_c0 qo1_c1 : ByteArray} {qo1_c2 qo1_c3 qo1_c4 : Int} {qo1_c5 : List G_api_Ins} {qo1_c5_v : Value} {qo1_c5_ls : List (List Value)} {qo1_c6 : List G_api_Guard} {qo1_c6_v : Value} {qo1_c6_ls : List (List Value)} {g2 h2 : AH}, k59M qy0 qo1_c0 qo1_c1 qo1_c2 qo1_c3 qo1_c4 qo1_c5 qo1_c6 = some r → Sub gbk59 g2 → Sep c g2 h2 [.sl 3 1 y10_v y10_ls, .bx v4_b [(.string qo1_c0), (.string qo1_c1), (vi qo1_c2), (vi qo1_c3), (vi qo1_c4), qo1_c5_v, qo1_c6_v], .sl 67 4 qo1_c5_v qo1_c5_ls, .sl 79 3 qo1_c6_v qo1_c6_ls, .bx k59_4_b [(.string k59_4.fClass), (.string k59_4.fName), (vi k59_4.fArgs), (vi k59_4.fSlots), (vi k59_4.fFrame), k59_4_w1, k59_4_w2], .bx k59_5_b [(.string k59_5.fClass), (.string k59_5.fName), (vi k59_5.fArgs), (vi k59_5.fSlots), (vi k59_5.fFrame), k59_5_w1, k59_5_w2]] → All2 (G_api_Ins.rep g2) qo1_c5_ls qo1_c5 → All2 (G_api_Guard.rep g2) qo1_c6_ls qo1_c6 → k59 (vi qy0) h2) (H : core_Cut_H c R r) : g_core_Cut_J14 w0 E R (mkP v65_b 0) y10_v (mkP v4_b 0) (vi y60) k59 (.bool y83) h := by
  unfold g_core_Cut_J14
  unfold g_core_Cut_J14_M at M
  refine br_lf (fun hc => ?_) (fun hc => ?_)
  · have M := cond_T hc M
    refine WP_fieldAddr.2 ?_
    refine S.bld1 0 rfl rfl ?_
    obtain ⟨c_47, hx_48, M⟩ := bind_some M
    refine S.oidx 1 rfl y10_A hx_48 (fun b_49 o_50 vs E_51 hc_52 rp => ?_)
    cases rp
    refine S.old1 (j := 0) 1 rfl E_51 hc_52 rfl ?_
    refine WP_fieldAddr.2 ?_
    refine S.bst [(vi c_47)] [(vi v65.fOp), (vi v65.fA), (vi c_47), (vi v65.fC)] rfl rfl (one_cons rfl rfl) (Nat.le_of_ble_eq_true rfl) rfl (fun h S => ?_)
    have S := S.f6
    have S := S.f6
    have S := S.f3
    have S := S.f3
    have S := S.f6
    have S := S.f6
    have S := S.f6
    exact g_core_Cut_J13_lf M S v4_c5_A v4_c6_A y10_A k59_4_F1 k59_4_F2 k59_5_F1 k59_5_F2 sbk59 Hk59 H
  · have M := cond_F hc M
    have S := S.f6
    have S := S.f6
    have S := S.f3
    have S := S.f3
    have S := S.f6
    have S := S.f6
    have S := S.f6
    exact g_core_Cut_J13_lf M S v4_c5_A v4_c6_A y10_A k59_4_F1 k59_4_F2 k59_5_F1 k59_5_F2 sbk59 Hk59 H
theorem g_core_Cut_J12_lf {w0 : World} {c : Cx} {g h : AH} {E R : Value → W} {r : G_api_Unit × (List Int) × Int} {N : Nat} {v65 : G_api_Ins} {y10 : List Int} {v4_c0 v4_c1 : ByteArray} {v4_c2 v4_c3 v4_c4 : Int} {v4_c5 : List G_api_Ins} {v4_c6 : List G_api_Guard} {y60 : Int} {k59_4 k59_5 : G_api_Unit} {v65_b : Nat} {y10_v : Value} {y10_ls : List (List Value)} {v4_b : Nat} {v4_c5_v : Value} {v4_c5_ls : List (List Value)} {v4_c6_v : Value} {v4_c6_ls : List (List Value)} {k59_4_b : Nat} {k59_4_w1 k59_4_w2 : Value} {k59_5_b : Nat} {k59_5_w1 k59_5_w2 : Value} {k59 : Value → W} {k59M : Int → ByteArray → ByteArray → Int → Int → Int → (List G_api_Ins) → (List G_api_Guard) → Option (G_api_Unit × (List Int) × Int)} {gbk59 : AH} (M : g_core_Cut_J12_M N v65 y10 v4_c0 v4_c1 v4_c2 v4_c3 v4_c4 v4_c5 v4_c6 y60 k59_4 k59_5 k59M = some r) (S : Sep c g h [.bx v65_b [(vi v65.fOp), (vi v65.fA), (vi v65.fB), (vi v65.fC)], .sl 3 1 y10_v y10_ls, .bx v4_b [(.string v4_c0), (.string v4_c1), (vi v4_c2), (vi v4_c3), (vi v4_c4), v4_c5_v, v4_c6_v], .sl 67 4 v4_c5_v v4_c5_ls, .sl 79 3 v4_c6_v v4_c6_ls, .bx k59_4_b [(.string k59_4.fClass), (.string k59_4.fName), (vi k59_4.fArgs), (vi k59_4.fSlots), (vi k59_4.fFrame), k59_4_w1, k59_4_w2], .bx k59_5_b [(.string k59_5.fClass), (.string k59_5.fName), (vi k59_5.fArgs), (vi k59_5.fSlots), (vi k59_5.fFrame), k59_5_w1, k59_5_w2]]) (y10_A : All2 ((rI .i64) g) y10_ls y10) (v4_c5_A : All2 (G_api_Ins.rep g) v4_c5_ls v4_c5) (v4_c6_A : All2 (G_api_Guard.rep g) v4_c6_ls v4_c6) (k59_4_F1 : FzS G_api_Ins.rep 4 g k59_4_w1 k59_4.fCode) (k59_4_F2 : FzS G_api_Guard.rep 3 g k59_4_w2 k59_4.fGuards) (k59_5_F1 : FzS G_api_Ins.rep 4 g k59_5_w1 k59_5.fCode) (k59_5_F2 : FzS G_api_Guard.rep 3 g k59_5_w2 k59_5.fGuards) (sbk59 : Sub gbk59 g) (Hk59 : ∀ {qy0 : Int} {qo1_c0 qo1_c1 : ByteArray} {qo1_c2 qo1_c3 qo1_c4 : Int} {qo1_c5 : List G_api_Ins} {qo1_c5_v : Value} {qo1_c5_ls : List (List Value)} {qo1_c6 : List G_api_Guard} {qo1_c6_v : Value} {qo1_c6_ls : List (List Value)} {g2 h2 : AH}, k59M qy0 qo1_c0 qo1_c1 qo1_c2 qo1_c3 qo1_c4 qo1_c5 qo1_c6 = some r → Sub gbk59 g2 → Sep c g2 h2 [.sl 3 1 y10_v y10_ls, .bx v4_b [(.string qo1_c0), (.string qo1_c1), (vi qo1_c2), (vi qo1_c3), (vi qo1_c4), qo1_c5_v, qo1_c6_v], .sl 67 4 qo1_c5_v qo1_c5_ls, .sl 79 3 qo1_c6_v qo1_c6_ls, .bx k59_4_b [(.string k59_4.fClass), (.string k59_4.fName), (vi k59_4.fArgs), (vi k59_4.fSlots), (vi k59_4.fFrame), k59_4_w1, k59_4_w2], .bx k59_5_b [(.string k59_5.fClass), (.string k59_5.fName), (vi k59_5.fArgs), (vi k59_5.fSlots), (vi k59_5.fFrame), k59_5_w1, k59_5_w2]] → All2 (G_api_Ins.rep g2) qo1_c5_ls qo1_c5 → All2 (G_api_Guard.rep g2) qo1_c6_ls qo1_c6 → k59 (vi qy0) h2) (H : core_Cut_H c R r) : g_core_Cut_J12 w0 E R (mkP v65_b 0) y10_v (mkP v4_b 0) (vi y60) k59 h := by
  unfold g_core_Cut_J12
  unfold g_core_Cut_J12_M at M
  refine WP_fieldAddr.2 ?_
  refine S.bld1 0 rfl rfl ?_
  refine WP_eql.2 ?_
  refine br_lf (fun hc => ?_) (fun hc => ?_)
  · have M := cond_T hc M
    refine WP_fieldAddr.2 ?_
    refine S.bld1 0 rfl rfl ?_
    obtain ⟨c_36, hx_37, M⟩ := bind_some M
    refine S.oidx 1 rfl y10_A hx_37 (fun b_38 o_39 vs E_40 hc_41 rp => ?_)
    cases rp
    refine S.old1 (j := 0) 1 rfl E_40 hc_41 rfl ?_
    refine WP_fieldAddr.2 ?_
    refine S.bst [(vi c_36)] [(vi v65.fOp), (vi c_36), (vi v65.fB), (vi v65.fC)] rfl rfl (one_cons rfl rfl) (Nat.le_of_ble_eq_true rfl) rfl (fun h S => ?_)
    have S := S.f6
    have S := S.f6
    have S := S.f3
    have S := S.f3
    have S := S.f6
    have S := S.f6
    have S := S.f6
    exact g_core_Cut_J13_lf M S v4_c5_A v4_c6_A y10_A k59_4_F1 k59_4_F2 k59_5_F1 k59_5_F2 sbk59 Hk59 H
  · have M := cond_F hc M
    refine WP_eql.2 ?_
    refine br_lf (fun hc => ?_) (fun hc => ?_)
    · have M := cond_T hc M
      exact g_core_Cut_J14_lf M S y10_A v4_c5_A v4_c6_A k59_4_F1 k59_4_F2 k59_5_F1 k59_5_F2 sbk59 Hk59 H
    · have M := cond_F hc M
      refine WP_eql.2 ?_
      exact g_core_Cut_J14_lf M S y10_A v4_c5_A v4_c6_A k59_4_F1 k59_4_F2 k59_5_F1 k59_5_F2 sbk59 Hk59 H
theorem g_core_Cut_J10_lf {w0 : World} {c : Cx} {g h : AH} {E R : Value → W} {r : G_api_Unit × (List Int) × Int} {N : Nat} {v57 : List G_api_Ins} {y60 : Int} {x1 : List Bool} {y10 : List Int} {v4_c0 v4_c1 : ByteArray} {v4_c2 v4_c3 v4_c4 : Int} {v4_c5 : List G_api_Ins} {v4_c6 : List G_api_Guard} {k59_4 k59_5 : G_api_Unit} {v57_v x1_v y10_v : Value} {y10_ls : List (List Value)} {v4_b : Nat} {v4_c5_v : Value} {v4_c5_ls : List (List Value)} {v4_c6_v : Value} {v4_c6_ls : List (List Value)} {k59_4_b : Nat} {k59_4_w1 k59_4_w2 : Value} {k59_5_b : Nat} {k59_5_w1 k59_5_w2 : Value} {k59 : Value → W} {k59M : Int → ByteArray → ByteArray → Int → Int → Int → (List G_api_Ins) → (List G_api_Guard) → Option (G_api_Unit × (List Int) × Int)} {gbk59 : AH} (M : g_core_Cut_J10_M N v57 y60 x1 y10 v4_c0 v4_c1 v4_c2 v4_c3 v4_c4 v4_c5 v4_c6 k59_4 k59_5 k59M = some r) (S : Sep c g h [.sl 3 1 y10_v y10_ls, .bx v4_b [(.string v4_c0), (.string v4_c1), (vi v4_c2), (vi v4_c3), (vi v4_c4), v4_c5_v, v4_c6_v], .sl 67 4 v4_c5_v v4_c5_ls, .sl 79 3 v4_c6_v v4_c6_ls, .bx k59_4_b [(.string k59_4.fClass), (.string k59_4.fName), (vi k59_4.fArgs), (vi k59_4.fSlots), (vi k59_4.fFrame), k59_4_w1, k59_4_w2], .bx k59_5_b [(.string k59_5.fClass), (.string k59_5.fName), (vi k59_5.fArgs), (vi k59_5.fSlots), (vi k59_5.fFrame), k59_5_w1, k59_5_w2]]) (v57_F : FzS G_api_Ins.rep 4 g v57_v v57) (x1_F : FzS rB 1 g x1_v x1) (y10_A : All2 ((rI .i64) g) y10_ls y10) (v4_c5_A : All2 (G_api_Ins.rep g) v4_c5_ls v4_c5) (v4_c6_A : All2 (G_api_Guard.rep g) v4_c6_ls v4_c6) (k59_4_F1 : FzS G_api_Ins.rep 4 g k59_4_w1 k59_4.fCode) (k59_4_F2 : FzS G_api_Guard.rep 3 g k59_4_w2 k59_4.fGuards) (k59_5_F1 : FzS G_api_Ins.rep 4 g k59_5_w1 k59_5.fCode) (k59_5_F2 : FzS G_api_Guard.rep 3 g k59_5_w2 k59_5.fGuards) (sbk59 : Sub gbk59 g) (Hk59 : ∀ {qy0 : Int} {qo1_c0 qo1_c1 : ByteArray} {qo1_c2 qo1_c3 qo1_c4 : Int} {qo1_c5 : List G_api_Ins} {qo1_c5_v : Value} {qo1_c5_ls : List (List Value)} {qo1_c6 : List G_api_Guard} {qo1_c6_v : Value} {qo1_c6_ls : List (List Value)} {g2 h2 : AH}, k59M qy0 qo1_c0 qo1_c1 qo1_c2 qo1_c3 qo1_c4 qo1_c5 qo1_c6 = some r → Sub gbk59 g2 → Sep c g2 h2 [.sl 3 1 y10_v y10_ls, .bx v4_b [(.string qo1_c0), (.string qo1_c1), (vi qo1_c2), (vi qo1_c3), (vi qo1_c4), qo1_c5_v, qo1_c6_v], .sl 67 4 qo1_c5_v qo1_c5_ls, .sl 79 3 qo1_c6_v qo1_c6_ls, .bx k59_4_b [(.string k59_4.fClass), (.string k59_4.fName), (vi k59_4.fArgs), (vi k59_4.fSlots), (vi k59_4.fFrame), k59_4_w1, k59_4_w2], .bx k59_5_b [(.string k59_5.fClass), (.string k59_5.fName), (vi k59_5.fArgs), (vi k59_5.fSlots), (vi k59_5.fFrame), k59_5_w1, k59_5_w2]] → All2 (G_api_Ins.rep g2) qo1_c5_ls qo1_c5 → All2 (G_api_Guard.rep g2) qo1_c6_ls qo1_c6 → k59 (vi qy0) h2) (H : core_Cut_H c R r) : g_core_Cut_J10 w0 E R v57_v (vi y60) x1_v k59 y10_v (mkP v4_b 0) h := by
  unfold g_core_Cut_J10
  unfold g_core_Cut_J10_M at M
  obtain ⟨c_23, hx_24, M⟩ := bind_some M
  refine FzS.idx v57_F hx_24 (fun b_25 o_26 vs E_28 r_27 rp => ?_)
  cases rp
  refine S.fldN r_27 rfl (by decide) ?_
  refine S.alloc (l := [(vi 0), (vi 0), (vi 0), (vi 0)]) (one_cons rfl (one_cons rfl (one_cons rfl (one_cons rfl rfl)))) (fun b_29 h S => ?_)
  refine S.bst [(vi c_23.fOp), (vi c_23.fA), (vi c_23.fB), (vi c_23.fC)] [(vi c_23.fOp), (vi c_23.fA), (vi c_23.fB), (vi c_23.fC)] rfl rfl (one_cons rfl (one_cons rfl (one_cons rfl (one_cons rfl rfl)))) (Nat.le_of_ble_eq_true rfl) rfl (fun h S => ?_)
  obtain ⟨c_30, hx_31, M⟩ := bind_some M
  refine FzS.idx x1_F hx_31 (fun b_32 o_33 vs E_35 r_34 rp => ?_)
  cases rp
  refine S.fld1 (r_34 0 _ rfl) ?_
  refine WP_notB.2 ?_
  refine br_lf (fun hc => ?_) (fun hc => ?_)
  · have M := cond_T hc M
    have S := S.f6
    have S := S.f6
    have S := S.f6
    have S := S.f6
    have S := S.f6
    have S := S.f6
    have S := S.t6
    exact g_core_Cut_J11_lf M S y10_A v4_c5_A v4_c6_A k59_4_F1 k59_4_F2 k59_5_F1 k59_5_F2 sbk59 Hk59 H
  · have M := cond_F hc M
    exact g_core_Cut_J12_lf M S y10_A v4_c5_A v4_c6_A k59_4_F1 k59_4_F2 k59_5_F1 k59_5_F2 sbk59 Hk59 H
theorem g_core_Cut_J8_lf {w0 : World} {c : Cx} {g h : AH} {E R : Value → W} {r : G_api_Unit × (List Int) × Int} {N : Nat} {y22 : Int} {k21_0 : List Int} {k21_1_c0 k21_1_c1 : ByteArray} {k21_1_c2 k21_1_c3 k21_1_c4 : Int} {k21_1_c5 : List G_api_Ins} {k21_1_c6 : List G_api_Guard} {k21_4 : G_api_Unit} {k21_0_v : Value} {k21_0_ls : List (List Value)} {k21_1_b : Nat} {k21_1_c5_v : Value} {k21_1_c5_ls : List (List Value)} {k21_1_c6_v : Value} {k21_1_c6_ls : List (List Value)} {k21_4_b : Nat} {k21_4_w1 k21_4_w2 : Value} {k21 : Value → W} {k21M : Int → ByteArray → ByteArray → Int → Int → Int → (List G_api_Ins) → (List G_api_Guard) → Option (G_api_Unit × (List Int) × Int)} {gbk21 : AH} (M : g_core_Cut_J8_M N y22 k21_0 k21_1_c0 k21_1_c1 k21_1_c2 k21_1_c3 k21_1_c4 k21_1_c5 k21_1_c6 k21_4 k21M = some r) (S : Sep c g h [.sl 3 1 k21_0_v k21_0_ls, .bx k21_1_b [(.string k21_1_c0), (.string k21_1_c1), (vi k21_1_c2), (vi k21_1_c3), (vi k21_1_c4), k21_1_c5_v, k21_1_c6_v], .sl 67 4 k21_1_c5_v k21_1_c5_ls, .sl 79 3 k21_1_c6_v k21_1_c6_ls, .bx k21_4_b [(.string k21_4.fClass), (.string k21_4.fName), (vi k21_4.fArgs), (vi k21_4.fSlots), (vi k21_4.fFrame), k21_4_w1, k21_4_w2]]) (k21_0_A : All2 ((rI .i64) g) k21_0_ls k21_0) (k21_1_c5_A : All2 (G_api_Ins.rep g) k21_1_c5_ls k21_1_c5) (k21_1_c6_A : All2 (G_api_Guard.rep g) k21_1_c6_ls k21_1_c6) (k21_4_F1 : FzS G_api_Ins.rep 4 g k21_4_w1 k21_4.fCode) (k21_4_F2 : FzS G_api_Guard.rep 3 g k21_4_w2 k21_4.fGuards) (sbk21 : Sub gbk21 g) (Hk21 : ∀ {qy0 : Int} {qo1_c0 qo1_c1 : ByteArray} {qo1_c2 qo1_c3 qo1_c4 : Int} {qo1_c5 : List G_api_Ins} {qo1_c5_v : Value} {qo1_c5_ls : List (List Value)} {qo1_c6 : List G_api_Guard} {qo1_c6_v : Value} {qo1_c6_ls : List (List Value)} {g2 h2 : AH}, k21M qy0 qo1_c0 qo1_c1 qo1_c2 qo1_c3 qo1_c4 qo1_c5 qo1_c6 = some r → Sub gbk21 g2 → Sep c g2 h2 [.sl 3 1 k21_0_v k21_0_ls, .bx k21_1_b [(.string qo1_c0), (.string qo1_c1), (vi qo1_c2), (vi qo1_c3), (vi qo1_c4), qo1_c5_v, qo1_c6_v], .sl 67 4 qo1_c5_v qo1_c5_ls, .sl 79 3 qo1_c6_v qo1_c6_ls, .bx k21_4_b [(.string k21_4.fClass), (.string k21_4.fName), (vi k21_4.fArgs), (vi k21_4.fSlots), (vi k21_4.fFrame), k21_4_w1, k21_4_w2]] → All2 (G_api_Ins.rep g2) qo1_c5_ls qo1_c5 → All2 (G_api_Guard.rep g2) qo1_c6_ls qo1_c6 → k21 (vi qy0) h2) (H : core_Cut_H c R r) : g_core_Cut_J8 w0 E R (vi y22) k21 h := by
  unfold g_core_Cut_J8
  unfold g_core_Cut_J8_M at M
  refine WP_add.2 ?_
  exact Hk21 M sbk21 S k21_1_c5_A k21_1_c6_A
theorem g_core_Cut_J7_lf {w0 : World} {c : Cx} {g h : AH} {E R : Value → W} {r : G_api_Unit × (List Int) × Int} {N : Nat} {v19 : List G_api_Guard} {y22 : Int} {v14 y10 : List Int} {v4_c0 v4_c1 : ByteArray} {v4_c2 v4_c3 v4_c4 : Int} {v4_c5 : List G_api_Ins} {v4_c6 : List G_api_Guard} {k21_4 : G_api_Unit} {v19_v v14_v : Value} {v14_ls : List (List Value)} {y10_v : Value} {v4_b : Nat} {v4_c5_v : Value} {v4_c5_ls : List (List Value)} {v4_c6_v : Value} {v4_c6_ls : List (List Value)} {k21_4_b : Nat} {k21_4_w1 k21_4_w2 : Value} {k21 : Value → W} {k21M : Int → ByteArray → ByteArray → Int → Int → Int → (List G_api_Ins) → (List G_api_Guard) → Option (G_api_Unit × (List Int) × Int)} {gbk21 : AH} (M : g_core_Cut_J7_M N v19 y22 v14 y10 v4_c0 v4_c1 v4_c2 v4_c3 v4_c4 v4_c5 v4_c6 k21_4 k21M = some r) (S : Sep c g h [.sl 3 1 v14_v v14_ls, .bx v4_b [(.string v4_c0), (.string v4_c1), (vi v4_c2), (vi v4_c3), (vi v4_c4), v4_c5_v, v4_c6_v], .sl 67 4 v4_c5_v v4_c5_ls, .sl 79 3 v4_c6_v v4_c6_ls, .bx k21_4_b [(.string k21_4.fClass), (.string k21_4.fName), (vi k21_4.fArgs), (vi k21_4.fSlots), (vi k21_4.fFrame), k21_4_w1, k21_4_w2]]) (v19_F : FzS G_api_Guard.rep 3 g v19_v v19) (v14_A : All2 ((rI .i64) g) v14_ls v14) (y10_F : FzS (rI .i64) 1 g y10_v y10) (v4_c5_A : All2 (G_api_Ins.rep g) v4_c5_ls v4_c5) (v4_c6_A : All2 (G_api_Guard.rep g) v4_c6_ls v4_c6) (k21_4_F1 : FzS G_api_Ins.rep 4 g k21_4_w1 k21_4.fCode) (k21_4_F2 : FzS G_api_Guard.rep 3 g k21_4_w2 k21_4.fGuards) (sbk21 : Sub gbk21 g) (Hk21 : ∀ {qy0 : Int} {qo1_c0 qo1_c1 : ByteArray} {qo1_c2 qo1_c3 qo1_c4 : Int} {qo1_c5 : List G_api_Ins} {qo1_c5_v : Value} {qo1_c5_ls : List (List Value)} {qo1_c6 : List G_api_Guard} {qo1_c6_v : Value} {qo1_c6_ls : List (List Value)} {g2 h2 : AH}, k21M qy0 qo1_c0 qo1_c1 qo1_c2 qo1_c3 qo1_c4 qo1_c5 qo1_c6 = some r → Sub gbk21 g2 → Sep c g2 h2 [.sl 3 1 v14_v v14_ls, .bx v4_b [(.string qo1_c0), (.string qo1_c1), (vi qo1_c2), (vi qo1_c3), (vi qo1_c4), qo1_c5_v, qo1_c6_v], .sl 67 4 qo1_c5_v qo1_c5_ls, .sl 79 3 qo1_c6_v qo1_c6_ls, .bx k21_4_b [(.string k21_4.fClass), (.string k21_4.fName), (vi k21_4.fArgs), (vi k21_4.fSlots), (vi k21_4.fFrame), k21_4_w1, k21_4_w2]] → All2 (G_api_Ins.rep g2) qo1_c5_ls qo1_c5 → All2 (G_api_Guard.rep g2) qo1_c6_ls qo1_c6 → k21 (vi qy0) h2) (H : core_Cut_H c R r) : g_core_Cut_J7 w0 E R v19_v (vi y22) v14_v y10_v (mkP v4_b 0) k21 h := by
  unfold g_core_Cut_J7
  unfold g_core_Cut_J7_M at M
  obtain ⟨c_64, hx_65, M⟩ := bind_some M
  refine FzS.idx v19_F hx_65 (fun b_66 o_67 vs E_69 r_68 rp => ?_)
  cases rp
  refine S.fldN r_68 rfl (by decide) ?_
  refine S.alloc (l := [(vi 0), (vi 0), (vi 0)]) (one_cons rfl (one_cons rfl (one_cons rfl rfl))) (fun b_70 h S => ?_)
  refine S.bst [(vi c_64.fFrom), (vi c_64.fTo), (vi c_64.fAt)] [(vi c_64.fFrom), (vi c_64.fTo), (vi c_64.fAt)] rfl rfl (one_cons rfl (one_cons rfl (one_cons rfl rfl))) (Nat.le_of_ble_eq_true rfl) rfl (fun h S => ?_)
  refine WP_fieldAddr.2 ?_
  refine S.bld1 0 rfl rfl ?_
  obtain ⟨c_71, hx_72, M⟩ := bind_some M
  refine S.oidx 1 rfl v14_A hx_72 (fun b_73 o_74 vs E_75 hc_76 rp => ?_)
  cases rp
  refine S.old1 (j := 0) 1 rfl E_75 hc_76 rfl ?_
  refine WP_fieldAddr.2 ?_
  refine S.bld1 0 rfl rfl ?_
  obtain ⟨c_77, hx_78, M⟩ := bind_some M
  refine S.oidx 1 rfl v14_A hx_78 (fun b_79 o_80 vs E_81 hc_82 rp => ?_)
  cases rp
  refine S.old1 (j := 0) 1 rfl E_81 hc_82 rfl ?_
  refine WP_fieldAddr.2 ?_
  refine S.bld1 0 rfl rfl ?_
  obtain ⟨c_83, hx_84, M⟩ := bind_some M
  refine FzS.idx y10_F hx_84 (fun b_85 o_86 vs E_88 r_87 rp => ?_)
  cases rp
  refine S.fld1 (r_87 0 _ rfl) ?_
  refine WPb [(vi c_71), (vi c_77), (vi c_83)] (by simp only [sizL, cellsOf_agg, cellsOf_int, cellsOf_bool, cellsOf_str,  List.length_cons, List.length_nil, Nat.reduceAdd, Nat.zero_add, decide_true, Bool.and_self]) (by simp only [List.flatMap_cons, List.flatMap_nil, cellsOf_agg, cellsOf_int, cellsOf_bool, cellsOf_str,  List.cons_append, List.nil_append, List.append_nil]) ?_
  refine S.alloc (l := [(vi 0), (vi 0), (vi 0)]) (one_cons rfl (one_cons rfl (one_cons rfl rfl))) (fun b_89 h S => ?_)
  refine S.bst [(vi c_71), (vi c_77), (vi c_83)] [(vi c_71), (vi c_77), (vi c_83)] rfl rfl (one_cons rfl (one_cons rfl (one_cons rfl rfl))) (Nat.le_of_ble_eq_true rfl) rfl (fun h S => ?_)
  refine WP_fieldAddr.2 ?_
  refine S.bld1 0 rfl rfl ?_
  refine WP_fieldAddr.2 ?_
  refine S.bld1 0 rfl rfl ?_
  refine WP_lss.2 ?_
  refine br_lf (fun hc => ?_) (fun hc => ?_)
  · have M := cond_T hc M
    refine WP_fieldAddr.2 ?_
    refine S.bld1 3 rfl rfl ?_
    refine S.bldN [(vi c_71), (vi c_77), (vi c_83)] 0 rfl rfl rfl (by decide) ?_
    refine S.bsl [[(vi c_71), (vi c_77), (vi c_83)]] (fillL_step (m := [(vi c_71), (vi c_77), (vi c_83)]) (l2 := [(vi c_71), (vi c_77), (vi c_83)]) rfl rfl (Nat.le_of_ble_eq_true rfl) rfl rfl) rfl (by decide) (sz_cons rfl sz_nil) (one_cons rfl (one_cons rfl (one_cons rfl rfl))) (fun v_90 h S => ?_)
    have A_91 : All2 (G_api_Guard.rep g) [[(vi c_71), (vi c_77), (vi c_83)]] [(G_api_Guard.mk c_71 c_77 c_83)] := (All2.push All2.nil (show G_api_Guard.rep g [(vi c_71), (vi c_77), (vi c_83)] (G_api_Guard.mk c_71 c_77 c_83) from rfl))
    have S := S.f6
    obtain ⟨hb_94, M⟩ := gu_some M
    refine S.app (S.rd 1 rfl) (by rw [v4_c6_A.1, A_91.1]; exact hb_94) (by decide) rfl (all_one G_api_Guard.one A_91) (all_one G_api_Guard.one v4_c6_A) (fun v_92 h S => ?_)
    have A_93 : All2 (G_api_Guard.rep g) (v4_c6_ls ++ [[(vi c_71), (vi c_77), (vi c_83)]]) (v4_c6 ++ [(G_api_Guard.mk c_71 c_77 c_83)]) := All2.append v4_c6_A A_91
    refine WP_fieldAddr.2 ?_
    have S := S.f5
    refine S.bst [v_92] [(.string v4_c0), (.string v4_c1), (vi v4_c2), (vi v4_c3), (vi v4_c4), v4_c5_v, v_92] (cellsOf_one (S.own1 1 rfl)) rfl (one_cons (S.own1 1 rfl) rfl) (Nat.le_of_ble_eq_true rfl) rfl (fun h S => ?_)
    have S := S.f7
    have S := S.f2
    have S := S.f7
    have S := S.f3
    have S := S.f7
    have S := S.t5
    exact g_core_Cut_J8_lf M S v14_A v4_c5_A A_93 k21_4_F1 k21_4_F2 sbk21 Hk21 H
  · have M := cond_F hc M
    have S := S.f6
    have S := S.f6
    have S := S.f6
    have S := S.f6
    have S := S.f6
    have S := S.t5
    exact g_core_Cut_J8_lf M S v14_A v4_c5_A v4_c6_A k21_4_F1 k21_4_F2 sbk21 Hk21 H
theorem g_core_Cut_J5_lf {w0 : World} {c : Cx} {g h : AH} {E R : Value → W} {r : G_api_Unit × (List Int) × Int} {N : Nat} {v4_c0 v4_c1 : ByteArray} {v4_c2 v4_c3 v4_c4 : Int} {v4_c5 : List G_api_Ins} {v4_c6 : List G_api_Guard} {v2 : G_api_Unit} {y10 : List Int} {v4_b : Nat} {v4_c5_v : Value} {v4_c5_ls : List (List Value)} {v4_c6_v : Value} {v4_c6_ls : List (List Value)} {v2_b : Nat} {v2_w1 v2_w2 y10_v : Value}  (M : g_core_Cut_J5_M N v4_c0 v4_c1 v4_c2 v4_c3 v4_c4 v4_c5 v4_c6 v2 y10 = some r) (S : Sep c g h [.bx v4_b [(.string v4_c0), (.string v4_c1), (vi v4_c2), (vi v4_c3), (vi v4_c4), v4_c5_v, v4_c6_v], .sl 67 4 v4_c5_v v4_c5_ls, .sl 79 3 v4_c6_v v4_c6_ls, .bx v2_b [(.string v2.fClass), (.string v2.fName), (vi v2.fArgs), (vi v2.fSlots), (vi v2.fFrame), v2_w1, v2_w2]]) (v4_c5_A : All2 (G_api_Ins.rep g) v4_c5_ls v4_c5) (v4_c6_A : All2 (G_api_Guard.rep g) v4_c6_ls v4_c6) (v2_F1 : FzS G_api_Ins.rep 4 g v2_w1 v2.fCode) (v2_F2 : FzS G_api_Guard.rep 3 g v2_w2 v2.fGuards) (y10_F : FzS (rI .i64) 1 g y10_v y10)  (H : core_Cut_H c R r) : g_core_Cut_J5 w0 E R (mkP v4_b 0) (mkP v2_b 0) y10_v h := by
  unfold g_core_Cut_J5
  unfold g_core_Cut_J5_M at M
  refine S.bldN [(.string v4_c0), (.string v4_c1), (vi v4_c2), (vi v4_c3), (vi v4_c4), v4_c5_v, v4_c6_v] 0 rfl rfl rfl (by decide) ?_
  have S := S.f3
  refine S.bst [(.string v4_c0), (.string v4_c1), (vi v4_c2), (vi v4_c3), (vi v4_c4), v4_c5_v, v4_c6_v] [(.string v4_c0), (.string v4_c1), (vi v4_c2), (vi v4_c3), (vi v4_c4), v4_c5_v, v4_c6_v] rfl rfl (one_cons rfl (one_cons rfl (one_cons rfl (one_cons rfl (one_cons rfl (one_cons (S.own1 2 rfl) (one_cons (S.own1 3 rfl) rfl))))))) (Nat.le_of_ble_eq_true rfl) rfl (fun h S => ?_)
  refine S.bldN [(.string v4_c0), (.string v4_c1), (vi v4_c2), (vi v4_c3), (vi v4_c4), v4_c5_v, v4_c6_v] 0 rfl rfl rfl (by decide) ?_
  have S := S.f2
  obtain ⟨g, sg, S, F_95⟩ := S.fz v4_c5_A G_api_Ins.mono
  have y10_F := y10_F.mono (mono_I .i64) sg
  have v4_c6_A := All2.mono v4_c6_A (fun _ _ hh => G_api_Guard.mono _ _ _ _ sg hh)
  have S := S.f2
  obtain ⟨g, sg, S, F_96⟩ := S.fz v4_c6_A G_api_Guard.mono
  have y10_F := y10_F.mono (mono_I .i64) sg
  have F_95 := F_95.mono G_api_Ins.mono sg
  cases M
  exact H _ _ v4_c5_v v4_c6_v y10_v S.drops F_95 F_96 y10_F
theorem g_core_Cut_L6_lf {w0 : World} {c : Cx} {g h : AH} {E R : Value → W} {r : G_api_Unit × (List Int) × Int} {N : Nat} {v20 : Int} {v19 : List G_api_Guard} {v14 y10 : List Int} {v4_c0 v4_c1 : ByteArray} {v4_c2 v4_c3 v4_c4 : Int} {v4_c5 : List G_api_Ins} {v4_c6 : List G_api_Guard} {v2 : G_api_Unit} {y22 : Int} {v19_v v14_v : Value} {v14_ls : List (List Value)} {y10_v : Value} {v4_b : Nat} {v4_c5_v : Value} {v4_c5_ls : List (List Value)} {v4_c6_v : Value} {v4_c6_ls : List (List Value)} {v2_b : Nat} {v2_w1 v2_w2 : Value} {k21 : Value → W} {k21M : Int → ByteArray → ByteArray → Int → Int → Int → (List G_api_Ins) → (List G_api_Guard) → Option (G_api_Unit × (List Int) × Int)} {gbk21 : AH} (M : g_core_Cut_L6_M N v20 v19 v14 y10 v4_c0 v4_c1 v4_c2 v4_c3 v4_c4 v4_c5 v4_c6 v2 y22 k21M = some r) (S : Sep c g h [.sl 3 1 v14_v v14_ls, .bx v4_b [(.string v4_c0), (.string v4_c1), (vi v4_c2), (vi v4_c3), (vi v4_c4), v4_c5_v, v4_c6_v], .sl 67 4 v4_c5_v v4_c5_ls, .sl 79 3 v4_c6_v v4_c6_ls, .bx v2_b [(.string v2.fClass), (.string v2.fName), (vi v2.fArgs), (vi v2.fSlots), (vi v2.fFrame), v2_w1, v2_w2]]) (v19_F : FzS G_api_Guard.rep 3 g v19_v v19) (v14_A : All2 ((rI .i64) g) v14_ls v14) (y10_F : FzS (rI .i64) 1 g y10_v y10) (v4_c5_A : All2 (G_api_Ins.rep g) v4_c5_ls v4_c5) (v4_c6_A : All2 (G_api_Guard.rep g) v4_c6_ls v4_c6) (v2_F1 : FzS G_api_Ins.rep 4 g v2_w1 v2.fCode) (v2_F2 : FzS G_api_Guard.rep 3 g v2_w2 v2.fGuards) (sbk21 : Sub gbk21 g) (Hk21 : ∀ {qy0 : Int} {qo1_c0 qo1_c1 : ByteArray} {qo1_c2 qo1_c3 qo1_c4 : Int} {qo1_c5 : List G_api_Ins} {qo1_c5_v : Value} {qo1_c5_ls : List (List Value)} {qo1_c6 : List G_api_Guard} {qo1_c6_v : Value} {qo1_c6_ls : List (List Value)} {g2 h2 : AH}, k21M qy0 qo1_c0 qo1_c1 qo1_c2 qo1_c3 qo1_c4 qo1_c5 qo1_c6 = some r → Sub gbk21 g2 → Sep c g2 h2 [.sl 3 1 v14_v v14_ls, .bx v4_b [(.string qo1_c0), (.string qo1_c1), (vi qo1_c2), (vi qo1_c3), (vi qo1_c4), qo1_c5_v, qo1_c6_v], .sl 67 4 qo1_c5_v qo1_c5_ls, .sl 79 3 qo1_c6_v qo1_c6_ls, .bx v2_b [(.string v2.fClass), (.string v2.fName), (vi v2.fArgs), (vi v2.fSlots), (vi v2.fFrame), v2_w1, v2_w2]] → All2 (G_api_Ins.rep g2) qo1_c5_ls qo1_c5 → All2 (G_api_Guard.rep g2) qo1_c6_ls qo1_c6 → k21 (vi qy0) h2) (H : core_Cut_H c R r) : g_core_Cut_L6 w0 E R (vi v20) v19_v v14_v y10_v (mkP v4_b 0) (mkP v2_b 0) k21 (vi y22) h := by
  unfold g_core_Cut_L6
  unfold g_core_Cut_L6_M at M
  refine WP_lss.2 ?_
  refine br_lf (fun hc => ?_) (fun hc => ?_)
  · have M := cond_T hc M
    exact g_core_Cut_J7_lf M S v19_F v14_A y10_F v4_c5_A v4_c6_A v2_F1 v2_F2 sbk21 Hk21 H
  · have M := cond_F hc M
    have S := S.f4
    have S := S.f4
    have S := S.f4
    have S := S.f4
    have S := S.t4
    exact g_core_Cut_J5_lf M S v4_c5_A v4_c6_A v2_F1 v2_F2 y10_F H
theorem g_core_Cut_L6_li {w0 : World} {c : Cx} {E R : Value → W} {r : G_api_Unit × (List Int) × Int} {N : Nat} {v20 : Int} {v19 : List G_api_Guard} {v14 y10 : List Int} {v2 : G_api_Unit} {v19_v v14_v : Value} {v14_ls : List (List Value)} {y10_v : Value} {v4_b v2_b : Nat} {v2_w1 v2_w2 : Value}   (H : core_Cut_H c R r) : ∀ (n : Nat) {v4_c0 v4_c1 : ByteArray} {v4_c2 v4_c3 v4_c4 : Int} {v4_c5 : List G_api_Ins} {v4_c6 : List G_api_Guard} {y22 : Int} {v4_c5_v : Value} {v4_c5_ls : List (List Value)} {v4_c6_v : Value} {v4_c6_ls : List (List Value)} {g h : AH}, g_core_Cut_L6_I N v20 v19 v14 y10 v2 n v4_c0 v4_c1 v4_c2 v4_c3 v4_c4 v4_c5 v4_c6 y22 = some r → Sep c g h [.sl 3 1 v14_v v14_ls, .bx v4_b [(.string v4_c0), (.string v4_c1), (vi v4_c2), (vi v4_c3), (vi v4_c4), v4_c5_v, v4_c6_v], .sl 67 4 v4_c5_v v4_c5_ls, .sl 79 3 v4_c6_v v4_c6_ls, .bx v2_b [(.string v2.fClass), (.string v2.fName), (vi v2.fArgs), (vi v2.fSlots), (vi v2.fFrame), v2_w1, v2_w2]] → FzS G_api_Guard.rep 3 g v19_v v19 → All2 ((rI .i64) g) v14_ls v14 → FzS (rI .i64) 1 g y10_v y10 → All2 (G_api_Ins.rep g) v4_c5_ls v4_c5 → All2 (G_api_Guard.rep g) v4_c6_ls v4_c6 → FzS G_api_Ins.rep 4 g v2_w1 v2.fCode → FzS G_api_Guard.rep 3 g v2_w2 v2.fGuards → LPn (α := Value) (fun k a => g_core_Cut_L6 w0 E R (vi v20) v19_v v14_v y10_v (mkP v4_b 0) (mkP v2_b 0) k a) n (vi y22) h := by
  intro n
  induction n with
  | zero =>
    intro v4_c0 v4_c1 v4_c2 v4_c3 v4_c4 v4_c5 v4_c6 y22 v4_c5_v v4_c5_ls v4_c6_v v4_c6_ls g h M S v19_F v14_A y10_F v4_c5_A v4_c6_A v2_F1 v2_F2
    unfold g_core_Cut_L6_I at M; cases M
  | succ n ih =>
    intro v4_c0 v4_c1 v4_c2 v4_c3 v4_c4 v4_c5 v4_c6 y22 v4_c5_v v4_c5_ls v4_c6_v v4_c6_ls g h M S v19_F v14_A y10_F v4_c5_A v4_c6_A v2_F1 v2_F2
    exact g_core_Cut_L6_lf M S v19_F v14_A y10_F v4_c5_A v4_c6_A v2_F1 v2_F2  (Sub.refl g) (fun M2 sub S2 qo1_c5_A qo1_c6_A => ih M2 S2 (FzS.mono v19_F G_api_Guard.mono sub) (All2.mono v14_A (fun _ _ hh => (mono_I .i64) _ _ _ _ sub hh)) (FzS.mono y10_F (mono_I .i64) sub) qo1_c5_A qo1_c6_A (FzS.mono v2_F1 G_api_Ins.mono sub) (FzS.mono v2_F2 G_api_Guard.mono sub) ) H
theorem g_core_Cut_J4_lf {w0 : World} {c : Cx} {g h : AH} {E R : Value → W} {r : G_api_Unit × (List Int) × Int} {N : Nat} {y10 : List Int} {y11 : Int} {v1 : G_api_Unit} {v4_c0 v4_c1 : ByteArray} {v4_c2 v4_c3 v4_c4 : Int} {v4_c5 : List G_api_Ins} {v4_c6 : List G_api_Guard} {v2 : G_api_Unit} {y10_v : Value} {y10_ls : List (List Value)} {v1_b : Nat} {v1_w1 v1_w2 : Value} {v4_b : Nat} {v4_c5_v : Value} {v4_c5_ls : List (List Value)} {v4_c6_v : Value} {v4_c6_ls : List (List Value)} {v2_b : Nat} {v2_w1 v2_w2 : Value}  (M : g_core_Cut_J4_M N y10 y11 v1 v4_c0 v4_c1 v4_c2 v4_c3 v4_c4 v4_c5 v4_c6 v2 = some r) (S : Sep c g h [.sl 3 1 y10_v y10_ls, .bx v1_b [(.string v1.fClass), (.string v1.fName), (vi v1.fArgs), (vi v1.fSlots), (vi v1.fFrame), v1_w1, v1_w2], .bx v4_b [(.string v4_c0), (.string v4_c1), (vi v4_c2), (vi v4_c3), (vi v4_c4), v4_c5_v, v4_c6_v], .sl 67 4 v4_c5_v v4_c5_ls, .sl 79 3 v4_c6_v v4_c6_ls, .bx v2_b [(.string v2.fClass), (.string v2.fName), (vi v2.fArgs), (vi v2.fSlots), (vi v2.fFrame), v2_w1, v2_w2]]) (y10_A : All2 ((rI .i64) g) y10_ls y10) (v1_F1 : FzS G_api_Ins.rep 4 g v1_w1 v1.fCode) (v1_F2 : FzS G_api_Guard.rep 3 g v1_w2 v1.fGuards) (v4_c5_A : All2 (G_api_Ins.rep g) v4_c5_ls v4_c5) (v4_c6_A : All2 (G_api_Guard.rep g) v4_c6_ls v4_c6) (v2_F1 : FzS G_api_Ins.rep 4 g v2_w1 v2.fCode) (v2_F2 : FzS G_api_Guard.rep 3 g v2_w2 v2.fGuards)  (H : core_Cut_H c R r) : g_core_Cut_J4 w0 E R y10_v (vi y11) (mkP v1_b 0) (mkP v4_b 0) (mkP v2_b 0) h := by
  unfold g_core_Cut_J4
  unfold g_core_Cut_J4_M at M
  obtain ⟨g, sg, S, F_53⟩ := S.fz y10_A (mono_I .i64)
  have v1_F1 := v1_F1.mono G_api_Ins.mono sg
  have v1_F2 := v1_F2.mono G_api_Guard.mono sg
  have v4_c5_A := All2.mono v4_c5_A (fun _ _ hh => G_api_Ins.mono _ _ _ _ sg hh)
  have v4_c6_A := All2.mono v4_c6_A (fun _ _ hh => G_api_Guard.mono _ _ _ _ sg hh)
  have v2_F1 := v2_F1.mono G_api_Ins.mono sg
  have v2_F2 := v2_F2.mono G_api_Guard.mono sg
  obtain ⟨c_54, hx_55, M⟩ := bind_some M
  refine slices_Clone_int_int_lf y10 y10_v S.sub S.ok F_53 hx_55 (fun g h v_56 ls_57 S1 A_58 => ?_)
  have F_53 := F_53.mono (mono_I .i64) S1.sub0
  have v1_F1 := v1_F1.mono G_api_Ins.mono S1.sub0
  have v1_F2 := v1_F2.mono G_api_Guard.mono S1.sub0
  have v4_c5_A := All2.mono v4_c5_A (fun _ _ hh => G_api_Ins.mono _ _ _ _ S1.sub0 hh)
  have v4_c6_A := All2.mono v4_c6_A (fun _ _ hh => G_api_Guard.mono _ _ _ _ S1.sub0 hh)
  have v2_F1 := v2_F1.mono G_api_Ins.mono S1.sub0
  have v2_F2 := v2_F2.mono G_api_Guard.mono S1.sub0
  have S := S.callO S1
  refine S.bsl [[(vi y11)]] (fillL_step (m := [(vi y11)]) (l2 := [(vi y11)]) rfl rfl (Nat.le_of_ble_eq_true rfl) rfl rfl) rfl (by decide) (sz_cons rfl sz_nil) (one_cons rfl rfl) (fun v_59 h S => ?_)
  have A_60 : All2 ((rI .i64) g) [[(vi y11)]] [y11] := (All2.push All2.nil (show (rI .i64) g [(vi y11)] y11 from rfl))
  have S := S.f1
  obtain ⟨hb_63, M⟩ := gu_some M
  refine S.app (S.rd 1 rfl) (by rw [A_58.1, A_60.1]; exact hb_63) (by decide) rfl (all_one (one_I .i64) A_60) (all_one (one_I .i64) A_58) (fun v_61 h S => ?_)
  have A_62 : All2 ((rI .i64) g) (ls_57 ++ [[(vi y11)]]) (c_54 ++ [y11]) := All2.append A_58 A_60
  refine WP_fieldAddr.2 ?_
  refine S.bld1 2 rfl rfl ?_
  refine v1_F2.len ?_
  have S := S.f6
  have S := S.f6
  have S := S.f6
  have S := S.f6
  have S := S.f4
  have S := S.t5
  exact ⟨N, g_core_Cut_L6_li  H _ M S v1_F2 A_62 F_53 v4_c5_A v4_c6_A v2_F1 v2_F2 ⟩
theorem g_core_Cut_L9_lf {w0 : World} {c : Cx} {g h : AH} {E R : Value → W} {r : G_api_Unit × (List Int) × Int} {N : Nat} {v58 : Int} {v57 : List G_api_Ins} {x1 : List Bool} {y10 : List Int} {v4_c0 v4_c1 : ByteArray} {v4_c2 v4_c3 v4_c4 : Int} {v4_c5 : List G_api_Ins} {v4_c6 : List G_api_Guard} {y11 : Int} {v1 v2 : G_api_Unit} {y60 : Int} {v57_v x1_v y10_v : Value} {y10_ls : List (List Value)} {v4_b : Nat} {v4_c5_v : Value} {v4_c5_ls : List (List Value)} {v4_c6_v : Value} {v4_c6_ls : List (List Value)} {v1_b : Nat} {v1_w1 v1_w2 : Value} {v2_b : Nat} {v2_w1 v2_w2 : Value} {k59 : Value → W} {k59M : Int → ByteArray → ByteArray → Int → Int → Int → (List G_api_Ins) → (List G_api_Guard) → Option (G_api_Unit × (List Int) × Int)} {gbk59 : AH} (M : g_core_Cut_L9_M N v58 v57 x1 y10 v4_c0 v4_c1 v4_c2 v4_c3 v4_c4 v4_c5 v4_c6 y11 v1 v2 y60 k59M = some r) (S : Sep c g h [.sl 3 1 y10_v y10_ls, .bx v4_b [(.string v4_c0), (.string v4_c1), (vi v4_c2), (vi v4_c3), (vi v4_c4), v4_c5_v, v4_c6_v], .sl 67 4 v4_c5_v v4_c5_ls, .sl 79 3 v4_c6_v v4_c6_ls, .bx v1_b [(.string v1.fClass), (.string v1.fName), (vi v1.fArgs), (vi v1.fSlots), (vi v1.fFrame), v1_w1, v1_w2], .bx v2_b [(.string v2.fClass), (.string v2.fName), (vi v2.fArgs), (vi v2.fSlots), (vi v2.fFrame), v2_w1, v2_w2]]) (v57_F : FzS G_api_Ins.rep 4 g v57_v v57) (x1_F : FzS rB 1 g x1_v x1) (y10_A : All2 ((rI .i64) g) y10_ls y10) (v4_c5_A : All2 (G_api_Ins.rep g) v4_c5_ls v4_c5) (v4_c6_A : All2 (G_api_Guard.rep g) v4_c6_ls v4_c6) (v1_F1 : FzS G_api_Ins.rep 4 g v1_w1 v1.fCode) (v1_F2 : FzS G_api_Guard.rep 3 g v1_w2 v1.fGuards) (v2_F1 : FzS G_api_Ins.rep 4 g v2_w1 v2.fCode) (v2_F2 : FzS G_api_Guard.rep 3 g v2_w2 v2.fGuards) (sbk59 : Sub gbk59 g) (Hk59 : ∀ {qy0 : Int} {qo1_c0 qo1_c1 : ByteArray} {qo1_c2 qo1_c3 qo1_c4 : Int} {qo1_c5 : List G_api_Ins} {qo1_c5_v : Value} {qo1_c5_ls : List (List Value)} {qo1_c6 : List G_api_Guard} {qo1_c6_v : Value} {qo1_c6_ls : List (List Value)} {g2 h2 : AH}, k59M qy0 qo1_c0 qo1_c1 qo1_c2 qo1_c3 qo1_c4 qo1_c5 qo1_c6 = some r → Sub gbk59 g2 → Sep c g2 h2 [.sl 3 1 y10_v y10_ls, .bx v4_b [(.string qo1_c0), (.string qo1_c1), (vi qo1_c2), (vi qo1_c3), (vi qo1_c4), qo1_c5_v, qo1_c6_v], .sl 67 4 qo1_c5_v qo1_c5_ls, .sl 79 3 qo1_c6_v qo1_c6_ls, .bx v1_b [(.string v1.fClass), (.string v1.fName), (vi v1.fArgs), (vi v1.fSlots), (vi v1.fFrame), v1_w1, v1_w2], .bx v2_b [(.string v2.fClass), (.string v2.fName), (vi v2.fArgs), (vi v2.fSlots), (vi v2.fFrame), v2_w1, v2_w2]] → All2 (G_api_Ins.rep g2) qo1_c5_ls qo1_c5 → All2 (G_api_Guard.rep g2) qo1_c6_ls qo1_c6 → k59 (vi qy0) h2) (H : core_Cut_H c R r) : g_core_Cut_L9 w0 E R (vi v58) v57_v x1_v y10_v (mkP v4_b 0) (vi y11) (mkP v1_b 0) (mkP v2_b 0) k59 (vi y60) h := by
  unfold g_core_Cut_L9
  unfold g_core_Cut_L9_M at M
  refine WP_lss.2 ?_
  refine br_lf (fun hc => ?_) (fun hc => ?_)
  · have M := cond_T hc M
    exact g_core_Cut_J10_lf M S v57_F x1_F y10_A v4_c5_A v4_c6_A v1_F1 v1_F2 v2_F1 v2_F2 sbk59 Hk59 H
  · have M := cond_F hc M
    have S := S.f5
    have S := S.f4
    have S := S.f4
    have S := S.f4
    have S := S.f5
    have S := S.f5
    exact g_core_Cut_J4_lf M S y10_A v1_F1 v1_F2 v4_c5_A v4_c6_A v2_F1 v2_F2 H
theorem g_core_Cut_L9_li {w0 : World} {c : Cx} {E R : Value → W} {r : G_api_Unit × (List Int) × Int} {N : Nat} {v58 : Int} {v57 : List G_api_Ins} {x1 : List Bool} {y10 : List Int} {y11 : Int} {v1 v2 : G_api_Unit} {v57_v x1_v y10_v : Value} {y10_ls : List (List Value)} {v4_b v1_b : Nat} {v1_w1 v1_w2 : Value} {v2_b : Nat} {v2_w1 v2_w2 : Value}   (H : core_Cut_H c R r) : ∀ (n : Nat) {v4_c0 v4_c1 : ByteArray} {v4_c2 v4_c3 v4_c4 : Int} {v4_c5 : List G_api_Ins} {v4_c6 : List G_api_Guard} {y60 : Int} {v4_c5_v : Value} {v4_c5_ls : List (List Value)} {v4_c6_v : Value} {v4_c6_ls : List (List Value)} {g h : AH}, g_core_Cut_L9_I N v58 v57 x1 y10 y11 v1 v2 n v4_c0 v4_c1 v4_c2 v4_c3 v4_c4 v4_c5 v4_c6 y60 = some r → Sep c g h [.sl 3 1 y10_v y10_ls, .bx v4_b [(.string v4_c0), (.string v4_c1), (vi v4_c2), (vi v4_c3), (vi v4_c4), v4_c5_v, v4_c6_v], .sl 67 4 v4_c5_v v4_c5_ls, .sl 79 3 v4_c6_v v4_c6_ls, .bx v1_b [(.string v1.fClass), (.string v1.fName), (vi v1.fArgs), (vi v1.fSlots), (vi v1.fFrame), v1_w1, v1_w2], .bx v2_b [(.string v2.fClass), (.string v2.fName), (vi v2.fArgs), (vi v2.fSlots), (vi v2.fFrame), v2_w1, v2_w2]] → FzS G_api_Ins.rep 4 g v57_v v57 → FzS rB 1 g x1_v x1 → All2 ((rI .i64) g) y10_ls y10 → All2 (G_api_Ins.rep g) v4_c5_ls v4_c5 → All2 (G_api_Guard.rep g) v4_c6_ls v4_c6 → FzS G_api_Ins.rep 4 g v1_w1 v1.fCode → FzS G_api_Guard.rep 3 g v1_w2 v1.fGuards → FzS G_api_Ins.rep 4 g v2_w1 v2.fCode → FzS G_api_Guard.rep 3 g v2_w2 v2.fGuards → LPn (α := Value) (fun k a => g_core_Cut_L9 w0 E R (vi v58) v57_v x1_v y10_v (mkP v4_b 0) (vi y11) (mkP v1_b 0) (mkP v2_b 0) k a) n (vi y60) h := by
  intro n
  induction n with
  | zero =>
    intro v4_c0 v4_c1 v4_c2 v4_c3 v4_c4 v4_c5 v4_c6 y60 v4_c5_v v4_c5_ls v4_c6_v v4_c6_ls g h M S v57_F x1_F y10_A v4_c5_A v4_c6_A v1_F1 v1_F2 v2_F1 v2_F2
    unfold g_core_Cut_L9_I at M; cases M
  | succ n ih =>
    intro v4_c0 v4_c1 v4_c2 v4_c3 v4_c4 v4_c5 v4_c6 y60 v4_c5_v v4_c5_ls v4_c6_v v4_c6_ls g h M S v57_F x1_F y10_A v4_c5_A v4_c6_A v1_F1 v1_F2 v2_F1 v2_F2
    exact g_core_Cut_L9_lf M S v57_F x1_F y10_A v4_c5_A v4_c6_A v1_F1 v1_F2 v2_F1 v2_F2  (Sub.refl g) (fun M2 sub S2 qo1_c5_A qo1_c6_A => ih M2 S2 (FzS.mono v57_F G_api_Ins.mono sub) (FzS.mono x1_F mono_B sub) (All2.mono y10_A (fun _ _ hh => (mono_I .i64) _ _ _ _ sub hh)) qo1_c5_A qo1_c6_A (FzS.mono v1_F1 G_api_Ins.mono sub) (FzS.mono v1_F2 G_api_Guard.mono sub) (FzS.mono v2_F1 G_api_Ins.mono sub) (FzS.mono v2_F2 G_api_Guard.mono sub) ) H
theorem g_core_Cut_J3_lf {w0 : World} {c : Cx} {g h : AH} {E R : Value → W} {r : G_api_Unit × (List Int) × Int} {N : Nat} {v1 : G_api_Unit} {x1 : List Bool} {v4_c0 v4_c1 : ByteArray} {v4_c2 v4_c3 v4_c4 : Int} {v4_c5 : List G_api_Ins} {v4_c6 : List G_api_Guard} {v2 : G_api_Unit} {y10 : List Int} {y11 : Int} {v1_b : Nat} {v1_w1 v1_w2 x1_v : Value} {v4_b : Nat} {v4_c5_v : Value} {v4_c5_ls : List (List Value)} {v4_c6_v : Value} {v4_c6_ls : List (List Value)} {v2_b : Nat} {v2_w1 v2_w2 y10_v : Value} {y10_ls : List (List Value)}  (M : g_core_Cut_J3_M N v1 x1 v4_c0 v4_c1 v4_c2 v4_c3 v4_c4 v4_c5 v4_c6 v2 y10 y11 = some r) (S : Sep c g h [.bx v1_b [(.string v1.fClass), (.string v1.fName), (vi v1.fArgs), (vi v1.fSlots), (vi v1.fFrame), v1_w1, v1_w2], .bx v4_b [(.string v4_c0), (.string v4_c1), (vi v4_c2), (vi v4_c3), (vi v4_c4), v4_c5_v, v4_c6_v], .sl 67 4 v4_c5_v v4_c5_ls, .sl 79 3 v4_c6_v v4_c6_ls, .bx v2_b [(.string v2.fClass), (.string v2.fName), (vi v2.fArgs), (vi v2.fSlots), (vi v2.fFrame), v2_w1, v2_w2], .sl 3 1 y10_v y10_ls]) (v1_F1 : FzS G_api_Ins.rep 4 g v1_w1 v1.fCode) (v1_F2 : FzS G_api_Guard.rep 3 g v1_w2 v1.fGuards) (x1_F : FzS rB 1 g x1_v x1) (v4_c5_A : All2 (G_api_Ins.rep g) v4_c5_ls v4_c5) (v4_c6_A : All2 (G_api_Guard.rep g) v4_c6_ls v4_c6) (v2_F1 : FzS G_api_Ins.rep 4 g v2_w1 v2.fCode) (v2_F2 : FzS G_api_Guard.rep 3 g v2_w2 v2.fGuards) (y10_A : All2 ((rI .i64) g) y10_ls y10)  (H : core_Cut_H c R r) : g_core_Cut_J3 w0 E R (mkP v1_b 0) x1_v (mkP v4_b 0) (mkP v2_b 0) y10_v (vi y11) h := by
  unfold g_core_Cut_J3
  unfold g_core_Cut_J3_M at M
  refine WP_fieldAddr.2 ?_
  refine S.bld1 0 rfl rfl ?_
  refine v1_F1.len ?_
  have S := S.f4
  have S := S.f1
  have S := S.f4
  have S := S.f4
  have S := S.f4
  have S := S.f5
  exact ⟨N, g_core_Cut_L9_li  H _ M S v1_F1 x1_F y10_A v4_c5_A v4_c6_A v1_F1 v1_F2 v2_F1 v2_F2 ⟩
theorem g_core_Cut_L15_lf {w0 : World} {c : Cx} {g h : AH} {E R : Value → W} {r : G_api_Unit × (List Int) × Int} {N : Nat} {v95 : Int} {x1 : List Bool} {v1 : G_api_Unit} {v4_c0 v4_c1 : ByteArray} {v4_c2 v4_c3 v4_c4 : Int} {v4_c5 : List G_api_Ins} {v4_c6 : List G_api_Guard} {v2 : G_api_Unit} {y97 : List Int} {y98 y99 : Int} {x1_v : Value} {v1_b : Nat} {v1_w1 v1_w2 : Value} {v4_b : Nat} {v4_c5_v : Value} {v4_c5_ls : List (List Value)} {v4_c6_v : Value} {v4_c6_ls : List (List Value)} {v2_b : Nat} {v2_w1 v2_w2 y97_v : Value} {y97_ls : List (List Value)} {k96 : Value → Value → Value → W} {k96M : (List Int) → Int → Int → ByteArray → ByteArray → Int → Int → Int → (List G_api_Ins) → (List G_api_Guard) → Option (G_api_Unit × (List Int) × Int)} {gbk96 : AH} (M : g_core_Cut_L15_M N v95 x1 v1 v4_c0 v4_c1 v4_c2 v4_c3 v4_c4 v4_c5 v4_c6 v2 y97 y98 y99 k96M = some r) (S : Sep c g h [.bx v1_b [(.string v1.fClass), (.string v1.fName), (vi v1.fArgs), (vi v1.fSlots), (vi v1.fFrame), v1_w1, v1_w2], .bx v4_b [(.string v4_c0), (.string v4_c1), (vi v4_c2), (vi v4_c3), (vi v4_c4), v4_c5_v, v4_c6_v], .sl 67 4 v4_c5_v v4_c5_ls, .sl 79 3 v4_c6_v v4_c6_ls, .bx v2_b [(.string v2.fClass), (.string v2.fName), (vi v2.fArgs), (vi v2.fSlots), (vi v2.fFrame), v2_w1, v2_w2], .sl 3 1 y97_v y97_ls]) (x1_F : FzS rB 1 g x1_v x1) (v1_F1 : FzS G_api_Ins.rep 4 g v1_w1 v1.fCode) (v1_F2 : FzS G_api_Guard.rep 3 g v1_w2 v1.fGuards) (v4_c5_A : All2 (G_api_Ins.rep g) v4_c5_ls v4_c5) (v4_c6_A : All2 (G_api_Guard.rep g) v4_c6_ls v4_c6) (v2_F1 : FzS G_api_Ins.rep 4 g v2_w1 v2.fCode) (v2_F2 : FzS G_api_Guard.rep 3 g v2_w2 v2.fGuards) (y97_A : All2 ((rI .i64) g) y97_ls y97) (sbk96 : Sub gbk96 g) (Hk96 : ∀ {qy0 : List Int} {qy0_v : Value} {qy0_ls : List (List Value)} {qy1 qy2 : Int} {qo1_c0 qo1_c1 : ByteArray} {qo1_c2 qo1_c3 qo1_c4 : Int} {qo1_c5 : List G_api_Ins} {qo1_c5_v : Value} {qo1_c5_ls : List (List Value)} {qo1_c6 : List G_api_Guard} {qo1_c6_v : Value} {qo1_c6_ls : List (List Value)} {g2 h2 : AH}, k96M qy0 qy1 qy2 qo1_c0 qo1_c1 qo1_c2 qo1_c3 qo1_c4 qo1_c5 qo1_c6 = some r → Sub gbk96 g2 → Sep c g2 h2 [.bx v1_b [(.string v1.fClass), (.string v1.fName), (vi v1.fArgs), (vi v1.fSlots), (vi v1.fFrame), v1_w1, v1_w2], .bx v4_b [(.string qo1_c0), (.string qo1_c1), (vi qo1_c2), (vi qo1_c3), (vi qo1_c4), qo1_c5_v, qo1_c6_v], .sl 67 4 qo1_c5_v qo1_c5_ls, .sl 79 3 qo1_c6_v qo1_c6_ls, .bx v2_b [(.string v2.fClass), (.string v2.fName), (vi v2.fArgs), (vi v2.fSlots), (vi v2.fFrame), v2_w1, v2_w2], .sl 3 1 qy0_v qy0_ls] → All2 ((rI .i64) g2) qy0_ls qy0 → All2 (G_api_Ins.rep g2) qo1_c5_ls qo1_c5 → All2 (G_api_Guard.rep g2) qo1_c6_ls qo1_c6 → k96 qy0_v (vi qy1) (vi qy2) h2) (H : core_Cut_H c R r) : g_core_Cut_L15 w0 E R (vi v95) x1_v (mkP v1_b 0) (mkP v4_b 0) (mkP v2_b 0) k96 y97_v (vi y98) (vi y99) h := by
  unfold g_core_Cut_L15
  unfold g_core_Cut_L15_M at M
  refine WP_lss.2 ?_
  refine br_lf (fun hc => ?_) (fun hc => ?_)
  · have M := cond_T hc M
    have S := S.f4
    have S := S.f4
    have S := S.f4
    have S := S.f4
    have S := S.f4
    have S := S.f5
    exact g_core_Cut_J16_lf M S x1_F y97_A v1_F1 v1_F2 v4_c5_A v4_c6_A v2_F1 v2_F2 sbk96 Hk96 H
  · have M := cond_F hc M
    exact g_core_Cut_J3_lf M S v1_F1 v1_F2 x1_F v4_c5_A v4_c6_A v2_F1 v2_F2 y97_A H
theorem g_core_Cut_L15_li {w0 : World} {c : Cx} {E R : Value → W} {r : G_api_Unit × (List Int) × Int} {N : Nat} {v95 : Int} {x1 : List Bool} {v1 v2 : G_api_Unit} {x1_v : Value} {v1_b : Nat} {v1_w1 v1_w2 : Value} {v4_b v2_b : Nat} {v2_w1 v2_w2 : Value}   (H : core_Cut_H c R r) : ∀ (n : Nat) {v4_c0 v4_c1 : ByteArray} {v4_c2 v4_c3 v4_c4 : Int} {v4_c5 : List G_api_Ins} {v4_c6 : List G_api_Guard} {y97 : List Int} {y98 y99 : Int} {v4_c5_v : Value} {v4_c5_ls : List (List Value)} {v4_c6_v : Value} {v4_c6_ls : List (List Value)} {y97_v : Value} {y97_ls : List (List Value)} {g h : AH}, g_core_Cut_L15_I N v95 x1 v1 v2 n v4_c0 v4_c1 v4_c2 v4_c3 v4_c4 v4_c5 v4_c6 y97 y98 y99 = some r → Sep c g h [.bx v1_b [(.string v1.fClass), (.string v1.fName), (vi v1.fArgs), (vi v1.fSlots), (vi v1.fFrame), v1_w1, v1_w2], .bx v4_b [(.string v4_c0), (.string v4_c1), (vi v4_c2), (vi v4_c3), (vi v4_c4), v4_c5_v, v4_c6_v], .sl 67 4 v4_c5_v v4_c5_ls, .sl 79 3 v4_c6_v v4_c6_ls, .bx v2_b [(.string v2.fClass), (.string v2.fName), (vi v2.fArgs), (vi v2.fSlots), (vi v2.fFrame), v2_w1, v2_w2], .sl 3 1 y97_v y97_ls] → FzS rB 1 g x1_v x1 → FzS G_api_Ins.rep 4 g v1_w1 v1.fCode → FzS G_api_Guard.rep 3 g v1_w2 v1.fGuards → All2 (G_api_Ins.rep g) v4_c5_ls v4_c5 → All2 (G_api_Guard.rep g) v4_c6_ls v4_c6 → FzS G_api_Ins.rep 4 g v2_w1 v2.fCode → FzS G_api_Guard.rep 3 g v2_w2 v2.fGuards → All2 ((rI .i64) g) y97_ls y97 → LPn (α := Value × Value × Value) (fun k a => g_core_Cut_L15 w0 E R (vi v95) x1_v (mkP v1_b 0) (mkP v4_b 0) (mkP v2_b 0) (fun b0 b1 b2 => k (b0, b1, b2)) a.1 a.2.1 a.2.2) n (y97_v, (vi y98), (vi y99)) h := by
  intro n
  induction n with
  | zero =>
    intro v4_c0 v4_c1 v4_c2 v4_c3 v4_c4 v4_c5 v4_c6 y97 y98 y99 v4_c5_v v4_c5_ls v4_c6_v v4_c6_ls y97_v y97_ls g h M S x1_F v1_F1 v1_F2 v4_c5_A v4_c6_A v2_F1 v2_F2 y97_A
    unfold g_core_Cut_L15_I at M; cases M
  | succ n ih =>
    intro v4_c0 v4_c1 v4_c2 v4_c3 v4_c4 v4_c5 v4_c6 y97 y98 y99 v4_c5_v v4_c5_ls v4_c6_v v4_c6_ls y97_v y97_ls g h M S x1_F v1_F1 v1_F2 v4_c5_A v4_c6_A v2_F1 v2_F2 y97_A
    exact g_core_Cut_L15_lf M S x1_F v1_F1 v1_F2 v4_c5_A v4_c6_A v2_F1 v2_F2 y97_A  (Sub.refl g) (fun M2 sub S2 qy0_A qo1_c5_A qo1_c6_A => ih M2 S2 (FzS.mono x1_F mono_B sub) (FzS.mono v1_F1 G_api_Ins.mono sub) (FzS.mono v1_F2 G_api_Guard.mono sub) qo1_c5_A qo1_c6_A (FzS.mono v2_F1 G_api_Ins.mono sub) (FzS.mono v2_F2 G_api_Guard.mono sub) qy0_A ) H
theorem g_core_Cut_J2_lf {w0 : World} {c : Cx} {g h : AH} {E R : Value → W} {r : G_api_Unit × (List Int) × Int} {N : Nat} {v1 : G_api_Unit} {x1 : List Bool} {v2 : G_api_Unit} {v1_b : Nat} {v1_w1 v1_w2 x1_v : Value} {v2_b : Nat} {v2_w1 v2_w2 : Value}  (M : g_core_Cut_J2_M N v1 x1 v2 = some r) (S : Sep c g h [.bx v1_b [(.string v1.fClass), (.string v1.fName), (vi v1.fArgs), (vi v1.fSlots), (vi v1.fFrame), v1_w1, v1_w2], .bx v2_b [(.string v2.fClass), (.string v2.fName), (vi v2.fArgs), (vi v2.fSlots), (vi v2.fFrame), v2_w1, v2_w2]]) (v1_F1 : FzS G_api_Ins.rep 4 g v1_w1 v1.fCode) (v1_F2 : FzS G_api_Guard.rep 3 g v1_w2 v1.fGuards) (x1_F : FzS rB 1 g x1_v x1) (v2_F1 : FzS G_api_Ins.rep 4 g v2_w1 v2.fCode) (v2_F2 : FzS G_api_Guard.rep 3 g v2_w2 v2.fGuards)  (H : core_Cut_H c R r) : g_core_Cut_J2 w0 E R (mkP v1_b 0) x1_v (mkP v2_b 0) h := by
  unfold g_core_Cut_J2
  unfold g_core_Cut_J2_M at M
  refine S.bldN [(.string v1.fClass), (.string v1.fName), (vi v1.fArgs), (vi v1.fSlots), (vi v1.fFrame), v1_w1, v1_w2] 0 rfl rfl rfl (by decide) ?_
  refine S.alloc (l := [(.string (⟨⟨[]⟩⟩ : ByteArray)), (.string (⟨⟨[]⟩⟩ : ByteArray)), (vi 0), (vi 0), (vi 0), nilS, nilS]) (one_cons rfl (one_cons rfl (one_cons rfl (one_cons rfl (one_cons rfl (one_cons rfl (one_cons rfl rfl))))))) (fun b_11 h S => ?_)
  refine S.bst [(.string v1.fClass), (.string v1.fName), (vi v1.fArgs), (vi v1.fSlots), (vi v1.fFrame), v1_w1, v1_w2] [(.string v1.fClass), (.string v1.fName), (vi v1.fArgs), (vi v1.fSlots), (vi v1.fFrame), v1_w1, v1_w2] rfl rfl (one_cons rfl (one_cons rfl (one_cons rfl (one_cons rfl (one_cons rfl (one_cons v1_F1.one (one_cons v1_F2.one rfl))))))) (Nat.le_of_ble_eq_true rfl) rfl (fun h S => ?_)
  refine WP_fieldAddr.2 ?_
  refine S.bst [nilS] [(.string v1.fClass), (.string v1.fName), (vi v1.fArgs), (vi v1.fSlots), (vi v1.fFrame), nilS, v1_w2] (cellsOf_one rfl) rfl (one_cons rfl rfl) (Nat.le_of_ble_eq_true rfl) rfl (fun h S => ?_)
  refine WP_fieldAddr.2 ?_
  refine S.bst [nilS] [(.string v1.fClass), (.string v1.fName), (vi v1.fArgs), (vi v1.fSlots), (vi v1.fFrame), nilS, nilS] (cellsOf_one rfl) rfl (one_cons rfl rfl) (Nat.le_of_ble_eq_true rfl) rfl (fun h S => ?_)
  refine x1_F.len ?_
  have S := S.nilsl 67 4
  have S := S.nilsl 79 3
  have S := S.nilsl 3 1
  have S := S.f5
  have S := S.f2
  have S := S.f3
  have S := S.f4
  have S := S.f5
  exact ⟨N, g_core_Cut_L15_li  H _ M S x1_F v1_F1 v1_F2 (All2.nil (R := G_api_Ins.rep g)) (All2.nil (R := G_api_Guard.rep g)) v2_F1 v2_F2 (All2.nil (R := (rI .i64) g)) ⟩
theorem g_core_Cut_J1_lf {w0 : World} {c : Cx} {g h : AH} {E R : Value → W} {r : G_api_Unit × (List Int) × Int} {N : Nat} {x1 : List Bool} {v2 v1 : G_api_Unit} {x1_v : Value} {v2_b : Nat} {v2_w1 v2_w2 : Value} {v1_b : Nat} {v1_w1 v1_w2 : Value}  (M : g_core_Cut_J1_M N x1 v2 v1 = some r) (S : Sep c g h [.bx v2_b [(.string v2.fClass), (.string v2.fName), (vi v2.fArgs), (vi v2.fSlots), (vi v2.fFrame), v2_w1, v2_w2], .bx v1_b [(.string v1.fClass), (.string v1.fName), (vi v1.fArgs), (vi v1.fSlots), (vi v1.fFrame), v1_w1, v1_w2]]) (x1_F : FzS rB 1 g x1_v x1) (v2_F1 : FzS G_api_Ins.rep 4 g v2_w1 v2.fCode) (v2_F2 : FzS G_api_Guard.rep 3 g v2_w2 v2.fGuards) (v1_F1 : FzS G_api_Ins.rep 4 g v1_w1 v1.fCode) (v1_F2 : FzS G_api_Guard.rep 3 g v1_w2 v1.fGuards)  (H : core_Cut_H c R r) : g_core_Cut_J1 w0 E R x1_v (mkP v2_b 0) (mkP v1_b 0) h := by
  unfold g_core_Cut_J1
  unfold g_core_Cut_J1_M at M
  refine x1_F.len ?_
  refine WP_sub.2 ?_
  obtain ⟨c_5, hx_6, M⟩ := bind_some M
  refine FzS.idx x1_F hx_6 (fun b_7 o_8 vs E_10 r_9 rp => ?_)
  cases rp
  refine S.fld1 (r_9 0 _ rfl) ?_
  refine WP_notB.2 ?_
  refine br_lf (fun hc => ?_) (fun hc => ?_)
  · have M := cond_T hc M
    refine (WX_build (l := [(.string (⟨⟨[]⟩⟩ : ByteArray)), (.string (⟨⟨[]⟩⟩ : ByteArray)), (vi 0), (vi 0), (vi 0), nilS, nilS]) rfl).2 ?_
    refine S.bst [(.string (⟨⟨[]⟩⟩ : ByteArray)), (.string (⟨⟨[]⟩⟩ : ByteArray)), (vi 0), (vi 0), (vi 0), nilS, nilS] [(.string (⟨⟨[]⟩⟩ : ByteArray)), (.string (⟨⟨[]⟩⟩ : ByteArray)), (vi 0), (vi 0), (vi 0), nilS, nilS] rfl rfl (one_cons rfl (one_cons rfl (one_cons rfl (one_cons rfl (one_cons rfl (one_cons rfl (one_cons rfl rfl))))))) (Nat.le_of_ble_eq_true rfl) rfl (fun h S => ?_)
    refine S.bldN [(.string (⟨⟨[]⟩⟩ : ByteArray)), (.string (⟨⟨[]⟩⟩ : ByteArray)), (vi 0), (vi 0), (vi 0), nilS, nilS] 0 rfl rfl rfl (by decide) ?_
    cases M
    exact H _ _ nilS nilS nilS S.drops FzS.nil FzS.nil FzS.nil
  · have M := cond_F hc M
    have S := S.f1
    exact g_core_Cut_J2_lf M S v1_F1 v1_F2 x1_F v2_F1 v2_F2 H
theorem g_core_Cut_P1_lf {w0 : World} {c : Cx} {g h : AH} {E R : Value → W} {r : G_api_Unit × (List Int) × Int} {N : Nat} {v2 : G_api_Unit} {x1 : List Bool} {v1 : G_api_Unit} {v126 : Bool} {v2_b : Nat} {v2_w1 v2_w2 x1_v : Value} {v1_b : Nat} {v1_w1 v1_w2 : Value}  (M : g_core_Cut_P1_M N v2 x1 v1 v126 = some r) (S : Sep c g h [.bx v2_b [(.string v2.fClass), (.string v2.fName), (vi v2.fArgs), (vi v2.fSlots), (vi v2.fFrame), v2_w1, v2_w2], .bx v1_b [(.string v1.fClass), (.string v1.fName), (vi v1.fArgs), (vi v1.fSlots), (vi v1.fFrame), v1_w1, v1_w2]]) (v2_F1 : FzS G_api_Ins.rep 4 g v2_w1 v2.fCode) (v2_F2 : FzS G_api_Guard.rep 3 g v2_w2 v2.fGuards) (x1_F : FzS rB 1 g x1_v x1) (v1_F1 : FzS G_api_Ins.rep 4 g v1_w1 v1.fCode) (v1_F2 : FzS G_api_Guard.rep 3 g v1_w2 v1.fGuards)  (H : core_Cut_H c R r) : g_core_Cut_P1 w0 E R (mkP v2_b 0) x1_v (mkP v1_b 0) (.bool v126) h := by
  unfold g_core_Cut_P1
  unfold g_core_Cut_P1_M at M
  refine br_lf (fun hc => ?_) (fun hc => ?_)
  · have M := cond_T hc M
    refine (WX_build (l := [(.string (⟨⟨[]⟩⟩ : ByteArray)), (.string (⟨⟨[]⟩⟩ : ByteArray)), (vi 0), (vi 0), (vi 0), nilS, nilS]) rfl).2 ?_
    refine S.bst [(.string (⟨⟨[]⟩⟩ : ByteArray)), (.string (⟨⟨[]⟩⟩ : ByteArray)), (vi 0), (vi 0), (vi 0), nilS, nilS] [(.string (⟨⟨[]⟩⟩ : ByteArray)), (.string (⟨⟨[]⟩⟩ : ByteArray)), (vi 0), (vi 0), (vi 0), nilS, nilS] rfl rfl (one_cons rfl (one_cons rfl (one_cons rfl (one_cons rfl (one_cons rfl (one_cons rfl (one_cons rfl rfl))))))) (Nat.le_of_ble_eq_true rfl) rfl (fun h S => ?_)
    refine S.bldN [(.string (⟨⟨[]⟩⟩ : ByteArray)), (.string (⟨⟨[]⟩⟩ : ByteArray)), (vi 0), (vi 0), (vi 0), nilS, nilS] 0 rfl rfl rfl (by decide) ?_
    cases M
    exact H _ _ nilS nilS nilS S.drops FzS.nil FzS.nil FzS.nil
  · have M := cond_F hc M
    exact g_core_Cut_J1_lf M S x1_F v2_F1 v2_F2 v1_F1 v1_F2 H
theorem core_Cut_lf {w0 : World} {g h : AH} {Q : CR → AH → Prop} {r : G_api_Unit × (List Int) × Int} {N : Nat} {x0 : G_api_Unit} {x1 : List Bool} {x0_w1 x0_w2 x1_v : Value} (M : core_Cut_M N x0 x1 = some r) (sg : Sub g h) (ok : h.Ok) (x0_F1 : FzS G_api_Ins.rep 4 g x0_w1 x0.fCode) (x0_F2 : FzS G_api_Guard.rep 3 g x0_w2 x0.fGuards) (x1_F : FzS rB 1 g x1_v x1) (H : core_Cut_H ⟨g, h, []⟩ (fun v => Q (.ret v)) r) : WF PP w0 id_core_Cut [(.agg ⟨[(.string x0.fClass), (.string x0.fName), (vi x0.fArgs), (vi x0.fSlots), (vi x0.fFrame), x0_w1, x0_w2]⟩), x1_v] h Q := by
  refine g_core_Cut_wp _ _ ?_
  have S := Sep.start sg ok
  unfold g_core_Cut_F
  unfold core_Cut_M at M
  refine S.box [(.string x0.fClass), (.string x0.fName), (vi x0.fArgs), (vi x0.fSlots), (vi x0.fFrame), x0_w1, x0_w2] rfl (one_cons rfl (one_cons rfl (one_cons rfl (one_cons rfl (one_cons rfl (one_cons x0_F1.one (one_cons x0_F2.one rfl))))))) (fun b_1 h S => ?_)
  refine S.alloc (l := [(.string (⟨⟨[]⟩⟩ : ByteArray)), (.string (⟨⟨[]⟩⟩ : ByteArray)), (vi 0), (vi 0), (vi 0), nilS, nilS]) (one_cons rfl (one_cons rfl (one_cons rfl (one_cons rfl (one_cons rfl (one_cons rfl (one_cons rfl rfl))))))) (fun b_2 h S => ?_)
  refine S.bldN [(.string x0.fClass), (.string x0.fName), (vi x0.fArgs), (vi x0.fSlots), (vi x0.fFrame), x0_w1, x0_w2] 1 rfl rfl rfl (by decide) ?_
  obtain ⟨c_3, hx_4, M⟩ := bind_some M
  refine core_plain_lf hx_4 S.sub S.ok x0_F1 x0_F2 (fun _ h  S1  => ?_)
  have S := S.call0 S1
  refine WP_notB.2 ?_
  cases hc : (!c_3)
  · have M := cond_F hc M
    refine gd_hit rfl ?_
    refine gd_hit rfl ?_
    refine x1_F.len ?_
    refine gd_hit rfl ?_
    refine WP_fieldAddr.2 ?_
    refine gd_hit rfl ?_
    refine S.bld1 1 rfl rfl ?_
    refine gd_hit rfl ?_
    refine x0_F1.len ?_
    refine gd_hit rfl ?_
    refine WP_neq.2 ?_
    refine WP_pick.2 ?_
    exact g_core_Cut_P1_lf M S FzS.nil FzS.nil x1_F x0_F1 x0_F2 H
  · have M := cond_T hc M
    refine gd_mis (by decide) ?_
    refine gd_mis (by decide) ?_
    refine gd_mis (by decide) ?_
    refine gd_mis (by decide) ?_
    refine gd_mis (by decide) ?_
    refine gd_mis (by decide) ?_
    refine WP_pick.2 ?_
    exact g_core_Cut_P1_lf M S FzS.nil FzS.nil x1_F x0_F1 x0_F2 H
def g_cosignerref08_Cut_J17_M (N : Nat) (y107 : Int) (y108 : Int) (k105_0 : List Int) (k105_1 : G_api_Unit) (k105_2 : G_cosignerref08_Cutted) (k105M : Int → Int → (List Int) → Option G_cosignerref08_Cutted) : Option G_cosignerref08_Cutted :=
 k105M y108 (wrapQ .i64 (y107 + 1)) k105_0
def g_cosignerref08_Cut_J16_M (N : Nat) (v7 : List Int) (y107 : Int) (y106 : Int) (x1 : List Bool) (k105_1 : G_api_Unit) (k105_2 : G_cosignerref08_Cutted) (k105M : Int → Int → (List Int) → Option G_cosignerref08_Cutted) : Option G_cosignerref08_Cutted :=
(ix v7 y107).bind fun c_14 =>
(ix x1 y107).bind fun c_21 =>
 bif c_21 then (
 g_cosignerref08_Cut_J17_M N y107 (wrapQ .i64 (y106 + 1)) (v7.set y107.toNat y106) k105_1 k105_2 k105M) else (
 g_cosignerref08_Cut_J17_M N y107 y106 (v7.set y107.toNat y106) k105_1 k105_2 k105M)
def g_cosignerref08_Cut_J11_M (N : Nat) (y64 : Int) (k63_0 : G_api_Unit) (k63_1 : List Int) (k63_2_c0 : ByteArray) (k63_2_c1 : ByteArray) (k63_2_c2 : Int) (k63_2_c3 : Int) (k63_2_c4 : Int) (k63_2_c5 : List G_api_Ins) (k63_2_c6 : List G_api_Guard) (k63_5 : G_cosignerref08_Cutted) (k63M : Int → (List Int) → ByteArray → ByteArray → Int → Int → Int → (List G_api_Ins) → (List G_api_Guard) → Option G_cosignerref08_Cutted) : Option G_cosignerref08_Cutted :=
 k63M (wrapQ .i64 (y64 + 1)) k63_1 k63_2_c0 k63_2_c1 k63_2_c2 k63_2_c3 k63_2_c4 k63_2_c5 k63_2_c6
def g_cosignerref08_Cut_J14_M (N : Nat) (v12_c0 : ByteArray) (v12_c1 : ByteArray) (v12_c2 : Int) (v12_c3 : Int) (v12_c4 : Int) (v12_c5 : List G_api_Ins) (v12_c6 : List G_api_Guard) (v70 : G_api_Ins) (y64 : Int) (k63_0 : G_api_Unit) (k63_1 : List Int) (k63_5 : G_cosignerref08_Cutted) (k63M : Int → (List Int) → ByteArray → ByteArray → Int → Int → Int → (List G_api_Ins) → (List G_api_Guard) → Option G_cosignerref08_Cutted) : Option G_cosignerref08_Cutted :=
 gu (decide (v12_c5.length + [v70].length ≤ 1048576)) (
 g_cosignerref08_Cut_J11_M N y64 k63_0 k63_1 v12_c0 v12_c1 v12_c2 v12_c3 v12_c4 (v12_c5 ++ [v70]) v12_c6 k63_5 k63M)
def g_cosignerref08_Cut_P1_M (N : Nat) (v70 : G_api_Ins) (v7 : List Int) (v12_c0 : ByteArray) (v12_c1 : ByteArray) (v12_c2 : Int) (v12_c3 : Int) (v12_c4 : Int) (v12_c5 : List G_api_Ins) (v12_c6 : List G_api_Guard) (y64 : Int) (v85 : Bool) (k63_0 : G_api_Unit) (k63_5 : G_cosignerref08_Cutted) (k63M : Int → (List Int) → ByteArray → ByteArray → Int → Int → Int → (List G_api_Ins) → (List G_api_Guard) → Option G_cosignerref08_Cutted) : Option G_cosignerref08_Cutted :=
 bif v85 then (
(ix v7 v70.fB).bind fun c_54 =>
 g_cosignerref08_Cut_J14_M N v12_c0 v12_c1 v12_c2 v12_c3 v12_c4 v12_c5 v12_c6 (G_api_Ins.mk v70.fOp v70.fA c_54 v70.fC) y64 k63_0 v7 k63_5 k63M) else (
 g_cosignerref08_Cut_J14_M N v12_c0 v12_c1 v12_c2 v12_c3 v12_c4 v12_c5 v12_c6 v70 y64 k63_0 v7 k63_5 k63M)
def g_cosignerref08_Cut_J13_M (N : Nat) (v70 : G_api_Ins) (v7 : List Int) (v12_c0 : ByteArray) (v12_c1 : ByteArray) (v12_c2 : Int) (v12_c3 : Int) (v12_c4 : Int) (v12_c5 : List G_api_Ins) (v12_c6 : List G_api_Guard) (y64 : Int) (k63_0 : G_api_Unit) (k63_5 : G_cosignerref08_Cutted) (k63M : Int → (List Int) → ByteArray → ByteArray → Int → Int → Int → (List G_api_Ins) → (List G_api_Guard) → Option G_cosignerref08_Cutted) : Option G_cosignerref08_Cutted :=
 bif (decide (v70.fOp = 25)) then (
 g_cosignerref08_Cut_P1_M N v70 v7 v12_c0 v12_c1 v12_c2 v12_c3 v12_c4 v12_c5 v12_c6 y64 true k63_0 k63_5 k63M) else (
 g_cosignerref08_Cut_P1_M N v70 v7 v12_c0 v12_c1 v12_c2 v12_c3 v12_c4 v12_c5 v12_c6 y64 (decide (v70.fOp = 32)) k63_0 k63_5 k63M)
def g_cosignerref08_Cut_J12_M (N : Nat) (v1 : G_api_Unit) (y64 : Int) (v7 : List Int) (v12_c0 : ByteArray) (v12_c1 : ByteArray) (v12_c2 : Int) (v12_c3 : Int) (v12_c4 : Int) (v12_c5 : List G_api_Ins) (v12_c6 : List G_api_Guard) (k63_5 : G_cosignerref08_Cutted) (k63M : Int → (List Int) → ByteArray → ByteArray → Int → Int → Int → (List G_api_Ins) → (List G_api_Guard) → Option G_cosignerref08_Cutted) : Option G_cosignerref08_Cutted :=
(ix v1.fCode y64).bind fun c_41 =>
 bif (decide (c_41.fOp = 24)) then (
(ix v7 c_41.fA).bind fun c_48 =>
 g_cosignerref08_Cut_J13_M N (G_api_Ins.mk c_41.fOp c_48 c_41.fB c_41.fC) v7 v12_c0 v12_c1 v12_c2 v12_c3 v12_c4 v12_c5 v12_c6 y64 v1 k63_5 k63M) else (
 g_cosignerref08_Cut_J13_M N c_41 v7 v12_c0 v12_c1 v12_c2 v12_c3 v12_c4 v12_c5 v12_c6 y64 v1 k63_5 k63M)
def g_cosignerref08_Cut_J10_M (N : Nat) (x1 : List Bool) (y64 : Int) (v1 : G_api_Unit) (v7 : List Int) (v12_c0 : ByteArray) (v12_c1 : ByteArray) (v12_c2 : Int) (v12_c3 : Int) (v12_c4 : Int) (v12_c5 : List G_api_Ins) (v12_c6 : List G_api_Guard) (k63_5 : G_cosignerref08_Cutted) (k63M : Int → (List Int) → ByteArray → ByteArray → Int → Int → Int → (List G_api_Ins) → (List G_api_Guard) → Option G_cosignerref08_Cutted) : Option G_cosignerref08_Cutted :=
(ix x1 y64).bind fun c_35 =>
 bif (!c_35) then (
 g_cosignerref08_Cut_J11_M N y64 v1 v7 v12_c0 v12_c1 v12_c2 v12_c3 v12_c4 v12_c5 v12_c6 k63_5 k63M) else (
 g_cosignerref08_Cut_J12_M N v1 y64 v7 v12_c0 v12_c1 v12_c2 v12_c3 v12_c4 v12_c5 v12_c6 k63_5 k63M)
def g_cosignerref08_Cut_J8_M (N : Nat) (y24 : Int) (k23_0 : G_api_Unit) (k23_1 : List Int) (k23_2_c0 : ByteArray) (k23_2_c1 : ByteArray) (k23_2_c2 : Int) (k23_2_c3 : Int) (k23_2_c4 : Int) (k23_2_c5 : List G_api_Ins) (k23_2_c6 : List G_api_Guard) (k23_5 : G_cosignerref08_Cutted) (k23M : Int → (List Int) → ByteArray → ByteArray → Int → Int → Int → (List G_api_Ins) → (List G_api_Guard) → Option G_cosignerref08_Cutted) : Option G_cosignerref08_Cutted :=
 k23M (wrapQ .i64 (y24 + 1)) k23_1 k23_2_c0 k23_2_c1 k23_2_c2 k23_2_c3 k23_2_c4 k23_2_c5 k23_2_c6
def g_cosignerref08_Cut_J7_M (N : Nat) (v1 : G_api_Unit) (y24 : Int) (v7 : List Int) (v12_c0 : ByteArray) (v12_c1 : ByteArray) (v12_c2 : Int) (v12_c3 : Int) (v12_c4 : Int) (v12_c5 : List G_api_Ins) (v12_c6 : List G_api_Guard) (k23_5 : G_cosignerref08_Cutted) (k23M : Int → (List Int) → ByteArray → ByteArray → Int → Int → Int → (List G_api_Ins) → (List G_api_Guard) → Option G_cosignerref08_Cutted) : Option G_cosignerref08_Cutted :=
(ix v1.fGuards y24).bind fun c_65 =>
(ix v7 c_65.fFrom).bind fun c_72 =>
(ix v7 c_65.fTo).bind fun c_78 =>
(ix v7 c_65.fAt).bind fun c_84 =>
 bif (!decide (c_72 = c_78)) then (
 gu (decide (v12_c6.length + [(G_api_Guard.mk c_72 c_78 c_84)].length ≤ 1048576)) (
 g_cosignerref08_Cut_J8_M N y24 v1 v7 v12_c0 v12_c1 v12_c2 v12_c3 v12_c4 v12_c5 (v12_c6 ++ [(G_api_Guard.mk c_72 c_78 c_84)]) k23_5 k23M)) else (
 g_cosignerref08_Cut_J8_M N y24 v1 v7 v12_c0 v12_c1 v12_c2 v12_c3 v12_c4 v12_c5 v12_c6 k23_5 k23M)
def g_cosignerref08_Cut_J5_M (N : Nat) (v12_c0 : ByteArray) (v12_c1 : ByteArray) (v12_c2 : Int) (v12_c3 : Int) (v12_c4 : Int) (v12_c5 : List G_api_Ins) (v12_c6 : List G_api_Guard) (v7 : List Int) (v5 : Int) (v2 : G_cosignerref08_Cutted)  : Option G_cosignerref08_Cutted :=
(subL v7 0 v5).bind fun c_96 =>
 some (G_cosignerref08_Cutted.mk (G_api_Unit.mk v12_c0 v12_c1 v12_c2 v12_c3 v12_c4 v12_c5 v12_c6) c_96 0)
def g_cosignerref08_Cut_L6_M (N : Nat) (v1 : G_api_Unit) (v7 : List Int) (v12_c0 : ByteArray) (v12_c1 : ByteArray) (v12_c2 : Int) (v12_c3 : Int) (v12_c4 : Int) (v12_c5 : List G_api_Ins) (v12_c6 : List G_api_Guard) (v5 : Int) (v2 : G_cosignerref08_Cutted) (y24 : Int) (k23M : Int → (List Int) → ByteArray → ByteArray → Int → Int → Int → (List G_api_Ins) → (List G_api_Guard) → Option G_cosignerref08_Cutted) : Option G_cosignerref08_Cutted :=
 bif (decide (y24 < (v1.fGuards.length : Int))) then (
 g_cosignerref08_Cut_J7_M N v1 y24 v7 v12_c0 v12_c1 v12_c2 v12_c3 v12_c4 v12_c5 v12_c6 v2 k23M) else (
 g_cosignerref08_Cut_J5_M N v12_c0 v12_c1 v12_c2 v12_c3 v12_c4 v12_c5 v12_c6 v7 v5 v2)
def g_cosignerref08_Cut_L6_I (N : Nat) (v1 : G_api_Unit) (v5 : Int) (v2 : G_cosignerref08_Cutted)  : Nat → (List Int) → ByteArray → ByteArray → Int → Int → Int → (List G_api_Ins) → (List G_api_Guard) → Int → Option G_cosignerref08_Cutted
  | 0, _, _, _, _, _, _, _, _, _ => none
  | n + 1, v7, v12_c0, v12_c1, v12_c2, v12_c3, v12_c4, v12_c5, v12_c6, y24 => g_cosignerref08_Cut_L6_M N v1 v7 v12_c0 v12_c1 v12_c2 v12_c3 v12_c4 v12_c5 v12_c6 v5 v2 y24  (fun qy0 qo1 qo2_c0 qo2_c1 qo2_c2 qo2_c3 qo2_c4 qo2_c5 qo2_c6 => g_cosignerref08_Cut_L6_I N v1 v5 v2 n qo1 qo2_c0 qo2_c1 qo2_c2 qo2_c3 qo2_c4 qo2_c5 qo2_c6 qy0)
def g_cosignerref08_Cut_J4_M (N : Nat) (v1 : G_api_Unit) (v7 : List Int) (v12_c0 : ByteArray) (v12_c1 : ByteArray) (v12_c2 : Int) (v12_c3 : Int) (v12_c4 : Int) (v12_c5 : List G_api_Ins) (v12_c6 : List G_api_Guard) (v5 : Int) (v2 : G_cosignerref08_Cutted)  : Option G_cosignerref08_Cutted :=
 g_cosignerref08_Cut_L6_I N v1 v5 v2 N v7 v12_c0 v12_c1 v12_c2 v12_c3 v12_c4 v12_c5 v12_c6 0
def g_cosignerref08_Cut_L9_M (N : Nat) (v5 : Int) (x1 : List Bool) (v1 : G_api_Unit) (v7 : List Int) (v12_c0 : ByteArray) (v12_c1 : ByteArray) (v12_c2 : Int) (v12_c3 : Int) (v12_c4 : Int) (v12_c5 : List G_api_Ins) (v12_c6 : List G_api_Guard) (v2 : G_cosignerref08_Cutted) (y64 : Int) (k63M : Int → (List Int) → ByteArray → ByteArray → Int → Int → Int → (List G_api_Ins) → (List G_api_Guard) → Option G_cosignerref08_Cutted) : Option G_cosignerref08_Cutted :=
 bif (decide (y64 < v5)) then (
 g_cosignerref08_Cut_J10_M N x1 y64 v1 v7 v12_c0 v12_c1 v12_c2 v12_c3 v12_c4 v12_c5 v12_c6 v2 k63M) else (
 g_cosignerref08_Cut_J4_M N v1 v7 v12_c0 v12_c1 v12_c2 v12_c3 v12_c4 v12_c5 v12_c6 v5 v2)
def g_cosignerref08_Cut_L9_I (N : Nat) (v5 : Int) (x1 : List Bool) (v1 : G_api_Unit) (v2 : G_cosignerref08_Cutted)  : Nat → (List Int) → ByteArray → ByteArray → Int → Int → Int → (List G_api_Ins) → (List G_api_Guard) → Int → Option G_cosignerref08_Cutted
  | 0, _, _, _, _, _, _, _, _, _ => none
  | n + 1, v7, v12_c0, v12_c1, v12_c2, v12_c3, v12_c4, v12_c5, v12_c6, y64 => g_cosignerref08_Cut_L9_M N v5 x1 v1 v7 v12_c0 v12_c1 v12_c2 v12_c3 v12_c4 v12_c5 v12_c6 v2 y64  (fun qy0 qo1 qo2_c0 qo2_c1 qo2_c2 qo2_c3 qo2_c4 qo2_c5 qo2_c6 => g_cosignerref08_Cut_L9_I N v5 x1 v1 v2 n qo1 qo2_c0 qo2_c1 qo2_c2 qo2_c3 qo2_c4 qo2_c5 qo2_c6 qy0)
def g_cosignerref08_Cut_J3_M (N : Nat) (v7 : List Int) (v5 : Int) (v1 : G_api_Unit) (x1 : List Bool) (v2 : G_cosignerref08_Cutted) (y8 : Int)  : Option G_cosignerref08_Cutted :=
(ix v7 v5).bind fun c_27 =>
 g_cosignerref08_Cut_L9_I N v5 x1 v1 v2 N (v7.set v5.toNat y8) v1.fClass v1.fName v1.fArgs v1.fSlots v1.fFrame ([] : List G_api_Ins) ([] : List G_api_Guard) 0
def g_cosignerref08_Cut_L15_M (N : Nat) (v5 : Int) (v7 : List Int) (x1 : List Bool) (v1 : G_api_Unit) (v2 : G_cosignerref08_Cutted) (y106 : Int) (y107 : Int) (k105M : Int → Int → (List Int) → Option G_cosignerref08_Cutted) : Option G_cosignerref08_Cutted :=
 bif (decide (y107 < v5)) then (
 g_cosignerref08_Cut_J16_M N v7 y107 y106 x1 v1 v2 k105M) else (
 g_cosignerref08_Cut_J3_M N v7 v5 v1 x1 v2 y106)
def g_cosignerref08_Cut_L15_I (N : Nat) (v5 : Int) (x1 : List Bool) (v1 : G_api_Unit) (v2 : G_cosignerref08_Cutted)  : Nat → (List Int) → Int → Int → Option G_cosignerref08_Cutted
  | 0, _, _, _ => none
  | n + 1, v7, y106, y107 => g_cosignerref08_Cut_L15_M N v5 v7 x1 v1 v2 y106 y107  (fun qy0 qy1 qo0 => g_cosignerref08_Cut_L15_I N v5 x1 v1 v2 n qo0 qy0 qy1)
def g_cosignerref08_Cut_J2_M (N : Nat) (v5 : Int) (x1 : List Bool) (v1 : G_api_Unit) (v2 : G_cosignerref08_Cutted)  : Option G_cosignerref08_Cutted :=
 gu (decide (0 ≤ (wrapQ .i64 (v5 + 1))) && decide ((wrapQ .i64 (v5 + 1)) ≤ 65536)) (
 g_cosignerref08_Cut_L15_I N v5 x1 v1 v2 N (List.replicate (wrapQ .i64 (v5 + 1)).toNat 0) 0 0)
def g_cosignerref08_Cut_J1_M (N : Nat) (v5 : Int) (x1 : List Bool) (v2 : G_cosignerref08_Cutted) (v1 : G_api_Unit)  : Option G_cosignerref08_Cutted :=
(ix x1 (wrapQ .i64 (v5 - 1))).bind fun c_5 =>
 bif (!c_5) then (
 some (G_cosignerref08_Cutted.mk (G_api_Unit.mk (⟨⟨[]⟩⟩ : ByteArray) (⟨⟨[]⟩⟩ : ByteArray) 0 0 0 ([] : List G_api_Ins) ([] : List G_api_Guard)) ([] : List Int) 2)) else (
 g_cosignerref08_Cut_J2_M N v5 x1 v1 v2)
def g_cosignerref08_Cut_P2_M (N : Nat) (v2 : G_cosignerref08_Cutted) (v5 : Int) (x1 : List Bool) (v1 : G_api_Unit) (v130 : Bool)  : Option G_cosignerref08_Cutted :=
 bif v130 then (
 some (G_cosignerref08_Cutted.mk (G_api_Unit.mk (⟨⟨[]⟩⟩ : ByteArray) (⟨⟨[]⟩⟩ : ByteArray) 0 0 0 ([] : List G_api_Ins) ([] : List G_api_Guard)) ([] : List Int) 1)) else (
 g_cosignerref08_Cut_J1_M N v5 x1 v2 v1)
def cosignerref08_Cut_M (N : Nat) (x0 : G_api_Unit) (x1 : List Bool) : Option G_cosignerref08_Cutted :=
(cosignerref08_Plain_M N x0).bind fun c_3 =>
 bif (!c_3) then (
 g_cosignerref08_Cut_P2_M N (G_cosignerref08_Cutted.mk (G_api_Unit.mk (⟨⟨[]⟩⟩ : ByteArray) (⟨⟨[]⟩⟩ : ByteArray) 0 0 0 ([] : List G_api_Ins) ([] : List G_api_Guard)) ([] : List Int) 0) (x0.fCode.length : Int) x1 x0 true) else (
 g_cosignerref08_Cut_P2_M N (G_cosignerref08_Cutted.mk (G_api_Unit.mk (⟨⟨[]⟩⟩ : ByteArray) (⟨⟨[]⟩⟩ : ByteArray) 0 0 0 ([] : List G_api_Ins) ([] : List G_api_Guard)) ([] : List Int) 0) (x0.fCode.length : Int) x1 x0 (!decide ((x1.length : Int) = (x0.fCode.length : Int))))
abbrev cosignerref08_Cut_H (c : Cx) (R : Value → W) (r : G_cosignerref08_Cutted) : Prop := ∀ (g' h' : AH) (w1 : Value) (w2 : Value) (w3 : Value), Sep c g' h' [] → FzS G_api_Ins.rep 4 g' w1 r.fU.fCode → FzS G_api_Guard.rep 3 g' w2 r.fU.fGuards → FzS (rI .i64) 1 g' w3 r.fAt → R (.agg ⟨[(.string r.fU.fClass), (.string r.fU.fName), (vi r.fU.fArgs), (vi r.fU.fSlots), (vi r.fU.fFrame), w1, w2, w3, (vi r.fE)]⟩) h'
theorem g_cosignerref08_Cut_J17_lf {w0 : World} {c : Cx} {g h : AH} {E R : Value → W} {r : G_cosignerref08_Cutted} {N : Nat} {y107 y108 : Int} {k105_0 : List Int} {k105_1 : G_api_Unit} {k105_2 : G_cosignerref08_Cutted} {k105_0_v : Value} {k105_0_ls : List (List Value)} {k105_1_b : Nat} {k105_1_w1 k105_1_w2 : Value} {k105_2_b : Nat} {k105_2_w1 k105_2_w2 k105_2_w3 : Value} {k105 : Value → Value → W} {k105M : Int → Int → (List Int) → Option G_cosignerref08_Cutted} {gbk105 : AH} (M : g_cosignerref08_Cut_J17_M N y107 y108 k105_0 k105_1 k105_2 k105M = some r) (S : Sep c g h [.sl 3 1 k105_0_v k105_0_ls, .bx k105_1_b [(.string k105_1.fClass), (.string k105_1.fName), (vi k105_1.fArgs), (vi k105_1.fSlots), (vi k105_1.fFrame), k105_1_w1, k105_1_w2], .bx k105_2_b [(.string k105_2.fU.fClass), (.string k105_2.fU.fName), (vi k105_2.fU.fArgs), (vi k105_2.fU.fSlots), (vi k105_2.fU.fFrame), k105_2_w1, k105_2_w2, k105_2_w3, (vi k105_2.fE)]]) (k105_0_A : All2 ((rI .i64) g) k105_0_ls k105_0) (k105_1_F1 : FzS G_api_Ins.rep 4 g k105_1_w1 k105_1.fCode) (k105_1_F2 : FzS G_api_Guard.rep 3 g k105_1_w2 k105_1.fGuards) (k105_2_F1 : FzS G_api_Ins.rep 4 g k105_2_w1 k105_2.fU.fCode) (k105_2_F2 : FzS G_api_Guard.rep 3 g k105_2_w2 k105_2.fU.fGuards) (k105_2_F3 : FzS (rI .i64) 1 g k105_2_w3 k105_2.fAt) (sbk105 : Sub gbk105 g) (Hk105 : ∀ {qy0 qy1 : Int} {qo0 : List Int} {qo0_ls : List (List Value)} {g2 h2 : AH}, k105M qy0 qy1 qo0 = some r → Sub gbk105 g2 → Sep c g2 h2 [.sl 3 1 k105_0_v qo0_ls, .bx k105_1_b [(.string k105_1.fClass), (.string k105_1.fName), (vi k105_1.fArgs), (vi k105_1.fSlots), (vi k105_1.fFrame), k105_1_w1, k105_1_w2], .bx k105_2_b [(.string k105_2.fU.fClass), (.string k105_2.fU.fName), (vi k105_2.fU.fArgs), (vi k105_2.fU.fSlots), (vi k105_2.fU.fFrame), k105_2_w1, k105_2_w2, k105_2_w3, (vi k105_2.fE)]] → All2 ((rI .i64) g2) qo0_ls qo0 → k105 (vi qy0) (vi qy1) h2) (H : cosignerref08_Cut_H c R r) : g_cosignerref08_Cut_J17 w0 E R (vi y107) k105 (vi y108) h := by
  unfold g_cosignerref08_Cut_J17
  unfold g_cosignerref08_Cut_J17_M at M
  refine WP_add.2 ?_
  exact Hk105 M sbk105 S k105_0_A
theorem g_cosignerref08_Cut_J16_lf {w0 : World} {c : Cx} {g h : AH} {E R : Value → W} {r : G_cosignerref08_Cutted} {N : Nat} {v7 : List Int} {y107 y106 : Int} {x1 : List Bool} {k105_1 : G_api_Unit} {k105_2 : G_cosignerref08_Cutted} {v7_v : Value} {v7_ls : List (List Value)} {x1_v : Value} {k105_1_b : Nat} {k105_1_w1 k105_1_w2 : Value} {k105_2_b : Nat} {k105_2_w1 k105_2_w2 k105_2_w3 : Value} {k105 : Value → Value → W} {k105M : Int → Int → (List Int) → Option G_cosignerref08_Cutted} {gbk105 : AH} (M : g_cosignerref08_Cut_J16_M N v7 y107 y106 x1 k105_1 k105_2 k105M = some r) (S : Sep c g h [.sl 3 1 v7_v v7_ls, .bx k105_1_b [(.string k105_1.fClass), (.string k105_1.fName), (vi k105_1.fArgs), (vi k105_1.fSlots), (vi k105_1.fFrame), k105_1_w1, k105_1_w2], .bx k105_2_b [(.string k105_2.fU.fClass), (.string k105_2.fU.fName), (vi k105_2.fU.fArgs), (vi k105_2.fU.fSlots), (vi k105_2.fU.fFrame), k105_2_w1, k105_2_w2, k105_2_w3, (vi k105_2.fE)]]) (v7_A : All2 ((rI .i64) g) v7_ls v7) (x1_F : FzS rB 1 g x1_v x1) (k105_1_F1 : FzS G_api_Ins.rep 4 g k105_1_w1 k105_1.fCode) (k105_1_F2 : FzS G_api_Guard.rep 3 g k105_1_w2 k105_1.fGuards) (k105_2_F1 : FzS G_api_Ins.rep 4 g k105_2_w1 k105_2.fU.fCode) (k105_2_F2 : FzS G_api_Guard.rep 3 g k105_2_w2 k105_2.fU.fGuards) (k105_2_F3 : FzS (rI .i64) 1 g k105_2_w3 k105_2.fAt) (sbk105 : Sub gbk105 g) (Hk105 : ∀ {qy0 qy1 : Int} {qo0 : List Int} {qo0_ls : List (List Value)} {g2 h2 : AH}, k105M qy0 qy1 qo0 = some r → Sub gbk105 g2 → Sep c g2 h2 [.sl 3 1 v7_v qo0_ls, .bx k105_1_b [(.string k105_1.fClass), (.string k105_1.fName), (vi k105_1.fArgs), (vi k105_1.fSlots), (vi k105_1.fFrame), k105_1_w1, k105_1_w2], .bx k105_2_b [(.string k105_2.fU.fClass), (.string k105_2.fU.fName), (vi k105_2.fU.fArgs), (vi k105_2.fU.fSlots), (vi k105_2.fU.fFrame), k105_2_w1, k105_2_w2, k105_2_w3, (vi k105_2.fE)]] → All2 ((rI .i64) g2) qo0_ls qo0 → k105 (vi qy0) (vi qy1) h2) (H : cosignerref08_Cut_H c R r) : g_cosignerref08_Cut_J16 w0 E R v7_v (vi y107) (vi y106) x1_v k105 h := by
  unfold g_cosignerref08_Cut_J16
  unfold g_cosignerref08_Cut_J16_M at M
  obtain ⟨c_14, hx_15, M⟩ := bind_some M
  refine S.oidx 0 rfl v7_A hx_15 (fun b_16 o_17 vs E_18 hc_19 rp => ?_)
  cases rp
  refine S.ost (j := 0) [(vi y106)] E_18 hc_19 rfl rfl (one_cons rfl rfl) (by decide) (fun h S => ?_)
  have A_20 : All2 ((rI .i64) g) (v7_ls.set y107.toNat [(vi y106)]) (v7.set y107.toNat y106) := All2.set v7_A (show (rI .i64) g [(vi y106)] y106 from rfl) y107.toNat
  have S : Sep _ g h [.sl 3 1 v7_v (v7_ls.set y107.toNat [(vi y106)]), .bx k105_1_b [(.string k105_1.fClass), (.string k105_1.fName), (vi k105_1.fArgs), (vi k105_1.fSlots), (vi k105_1.fFrame), k105_1_w1, k105_1_w2], .bx k105_2_b [(.string k105_2.fU.fClass), (.string k105_2.fU.fName), (vi k105_2.fU.fArgs), (vi k105_2.fU.fSlots), (vi k105_2.fU.fFrame), k105_2_w1, k105_2_w2, k105_2_w3, (vi k105_2.fE)]] := S
  obtain ⟨c_21, hx_22, M⟩ := bind_some M
  refine FzS.idx x1_F hx_22 (fun b_23 o_24 vs E_26 r_25 rp => ?_)
  cases rp
  refine S.fld1 (r_25 0 _ rfl) ?_
  refine br_lf (fun hc => ?_) (fun hc => ?_)
  · have M := cond_T hc M
    refine WP_add.2 ?_
    exact g_cosignerref08_Cut_J17_lf M S A_20 k105_1_F1 k105_1_F2 k105_2_F1 k105_2_F2 k105_2_F3 sbk105 Hk105 H
  · have M := cond_F hc M
    exact g_cosignerref08_Cut_J17_lf M S A_20 k105_1_F1 k105_1_F2 k105_2_F1 k105_2_F2 k105_2_F3 sbk105 Hk105 H
theorem g_cosignerref08_Cut_J11_lf {w0 : World} {c : Cx} {g h : AH} {E R : Value → W} {r : G_cosignerref08_Cutted} {N : Nat} {y64 : Int} {k63_0 : G_api_Unit} {k63_1 : List Int} {k63_2_c0 k63_2_c1 : ByteArray} {k63_2_c2 k63_2_c3 k63_2_c4 : Int} {k63_2_c5 : List G_api_Ins} {k63_2_c6 : List G_api_Guard} {k63_5 : G_cosignerref08_Cutted} {k63_0_b : Nat} {k63_0_w1 k63_0_w2 k63_1_v : Value} {k63_1_ls : List (List Value)} {k63_2_b : Nat} {k63_2_c5_v : Value} {k63_2_c5_ls : List (List Value)} {k63_2_c6_v : Value} {k63_2_c6_ls : List (List Value)} {k63_5_b : Nat} {k63_5_w1 k63_5_w2 k63_5_w3 : Value} {k63 : Value → W} {k63M : Int → (List Int) → ByteArray → ByteArray → Int → Int → Int → (List G_api_Ins) → (List G_api_Guard) → Option G_cosignerref08_Cutted} {gbk63 : AH} (M : g_cosignerref08_Cut_J11_M N y64 k63_0 k63_1 k63_2_c0 k63_2_c1 k63_2_c2 k63_2_c3 k63_2_c4 k63_2_c5 k63_2_c6 k63_5 k63M = some r) (S : Sep c g h [.bx k63_0_b [(.string k63_0.fClass), (.string k63_0.fName), (vi k63_0.fArgs), (vi k63_0.fSlots), (vi k63_0.fFrame), k63_0_w1, k63_0_w2], .sl 3 1 k63_1_v k63_1_ls, .bx k63_2_b [(.string k63_2_c0), (.string k63_2_c1), (vi k63_2_c2), (vi k63_2_c3), (vi k63_2_c4), k63_2_c5_v, k63_2_c6_v], .sl 67 4 k63_2_c5_v k63_2_c5_ls, .sl 79 3 k63_2_c6_v k63_2_c6_ls, .bx k63_5_b [(.string k63_5.fU.fClass), (.string k63_5.fU.fName), (vi k63_5.fU.fArgs), (vi k63_5.fU.fSlots), (vi k63_5.fU.fFrame), k63_5_w1, k63_5_w2, k63_5_w3, (vi k63_5.fE)]]) (k63_0_F1 : FzS G_api_Ins.rep 4 g k63_0_w1 k63_0.fCode) (k63_0_F2 : FzS G_api_Guard.rep 3 g k63_0_w2 k63_0.fGuards) (k63_1_A : All2 ((rI .i64) g) k63_1_ls k63_1) (k63_2_c5_A : All2 (G_api_Ins.rep g) k63_2_c5_ls k63_2_c5) (k63_2_c6_A : All2 (G_api_Guard.rep g) k63_2_c6_ls k63_2_c6) (k63_5_F1 : FzS G_api_Ins.rep 4 g k63_5_w1 k63_5.fU.fCode) (k63_5_F2 : FzS G_api_Guard.rep 3 g k63_5_w2 k63_5.fU.fGuards) (k63_5_F3 : FzS (rI .i64) 1 g k63_5_w3 k63_5.fAt) (sbk63 : Sub gbk63 g) (Hk63 : ∀ {qy0 : Int} {qo1 : List Int} {qo1_ls : List (List Value)} {qo2_c0 qo2_c1 : ByteArray} {qo2_c2 qo2_c3 qo2_c4 : Int} {qo2_c5 : List G_api_Ins} {qo2_c5_v : Value} {qo2_c5_ls : List (List Value)} {qo2_c6 : List G_api_Guard} {qo2_c6_v : Value} {qo2_c6_ls : List (List Value)} {g2 h2 : AH}, k63M qy0 qo1 qo2_c0 qo2_c1 qo2_c2 qo2_c3 qo2_c4 qo2_c5 qo2_c6 = some r → Sub gbk63 g2 → Sep c g2 h2 [.bx k63_0_b [(.string k63_0.fClass), (.string k63_0.fName), (vi k63_0.fArgs), (vi k63_0.fSlots), (vi k63_0.fFrame), k63_0_w1, k63_0_w2], .sl 3 1 k63_1_v qo1_ls, .bx k63_2_b [(.string qo2_c0), (.string qo2_c1), (vi qo2_c2), (vi qo2_c3), (vi qo2_c4), qo2_c5_v, qo2_c6_v], .sl 67 4 qo2_c5_v qo2_c5_ls, .sl 79 3 qo2_c6_v qo2_c6_ls, .bx k63_5_b [(.string k63_5.fU.fClass), (.string k63_5.fU.fName), (vi k63_5.fU.fArgs), (vi k63_5.fU.fSlots), (vi k63_5.fU.fFrame), k63_5_w1, k63_5_w2, k63_5_w3, (vi k63_5.fE)]] → All2 ((rI .i64) g2) qo1_ls qo1 → All2 (G_api_Ins.rep g2) qo2_c5_ls qo2_c5 → All2 (G_api_Guard.rep g2) qo2_c6_ls qo2_c6 → k63 (vi qy0) h2) (H : cosignerref08_Cut_H c R r) : g_cosignerref08_Cut_J11 w0 E R (vi y64) k63 h := by
  unfold g_cosignerref08_Cut_J11
  unfold g_cosignerref08_Cut_J11_M at M
  refine WP_add.2 ?_
  exact Hk63 M sbk63 S k63_1_A k63_2_c5_A k63_2_c6_A
theorem g_cosignerref08_Cut_J14_lf {w0 : World} {c : Cx} {g h : AH} {E R : Value → W} {r : G_cosignerref08_Cutted} {N : Nat} {v12_c0 v12_c1 : ByteArray} {v12_c2 v12_c3 v12_c4 : Int} {v12_c5 : List G_api_Ins} {v12_c6 : List G_api_Guard} {v70 : G_api_Ins} {y64 : Int} {k63_0 : G_api_Unit} {k63_1 : List Int} {k63_5 : G_cosignerref08_Cutted} {v12_b : Nat} {v12_c5_v : Value} {v12_c5_ls : List (List Value)} {v12_c6_v : Value} {v12_c6_ls : List (List Value)} {v70_b k63_0_b : Nat} {k63_0_w1 k63_0_w2 k63_1_v : Value} {k63_1_ls : List (List Value)} {k63_5_b : Nat} {k63_5_w1 k63_5_w2 k63_5_w3 : Value} {k63 : Value → W} {k63M : Int → (List Int) → ByteArray → ByteArray → Int → Int → Int → (List G_api_Ins) → (List G_api_Guard) → Option G_cosignerref08_Cutted} {gbk63 : AH} (M : g_cosignerref08_Cut_J14_M N v12_c0 v12_c1 v12_c2 v12_c3 v12_c4 v12_c5 v12_c6 v70 y64 k63_0 k63_1 k63_5 k63M = some r) (S : Sep c g h [.bx v12_b [(.string v12_c0), (.string v12_c1), (vi v12_c2), (vi v12_c3), (vi v12_c4), v12_c5_v, v12_c6_v], .sl 67 4 v12_c5_v v12_c5_ls, .sl 79 3 v12_c6_v v12_c6_ls, .bx v70_b [(vi v70.fOp), (vi v70.fA), (vi v70.fB), (vi v70.fC)], .bx k63_0_b [(.string k63_0.fClass), (.string k63_0.fName), (vi k63_0.fArgs), (vi k63_0.fSlots), (vi k63_0.fFrame), k63_0_w1, k63_0_w2], .sl 3 1 k63_1_v k63_1_ls, .bx k63_5_b [(.string k63_5.fU.fClass), (.string k63_5.fU.fName), (vi k63_5.fU.fArgs), (vi k63_5.fU.fSlots), (vi k63_5.fU.fFrame), k63_5_w1, k63_5_w2, k63_5_w3, (vi k63_5.fE)]]) (v12_c5_A : All2 (G_api_Ins.rep g) v12_c5_ls v12_c5) (v12_c6_A : All2 (G_api_Guard.rep g) v12_c6_ls v12_c6) (k63_0_F1 : FzS G_api_Ins.rep 4 g k63_0_w1 k63_0.fCode) (k63_0_F2 : FzS G_api_Guard.rep 3 g k63_0_w2 k63_0.fGuards) (k63_1_A : All2 ((rI .i64) g) k63_1_ls k63_1) (k63_5_F1 : FzS G_api_Ins.rep 4 g k63_5_w1 k63_5.fU.fCode) (k63_5_F2 : FzS G_api_Guard.rep 3 g k63_5_w2 k63_5.fU.fGuards) (k63_5_F3 : FzS (rI .i64) 1 g k63_5_w3 k63_5.fAt) (sbk63 : Sub gbk63 g) (Hk63 : ∀ {qy0 : Int} {qo1 : List Int} {qo1_ls : List (List Value)} {qo2_c0 qo2_c1 : ByteArray} {qo2_c2 qo2_c3 qo2_c4 : Int} {qo2_c5 : List G_api_Ins} {qo2_c5_v : Value} {qo2_c5_ls : List (List Value)} {qo2_c6 : List G_api_Guard} {qo2_c6_v : Value} {qo2_c6_ls : List (List Value)} {g2 h2 : AH}, k63M qy0 qo1 qo2_c0 qo2_c1 qo2_c2 qo2_c3 qo2_c4 qo2_c5 qo2_c6 = some r → Sub gbk63 g2 → Sep c g2 h2 [.bx k63_0_b [(.string k63_0.fClass), (.string k63_0.fName), (vi k63_0.fArgs), (vi k63_0.fSlots), (vi k63_0.fFrame), k63_0_w1, k63_0_w2], .sl 3 1 k63_1_v qo1_ls, .bx v12_b [(.string qo2_c0), (.string qo2_c1), (vi qo2_c2), (vi qo2_c3), (vi qo2_c4), qo2_c5_v, qo2_c6_v], .sl 67 4 qo2_c5_v qo2_c5_ls, .sl 79 3 qo2_c6_v qo2_c6_ls, .bx k63_5_b [(.string k63_5.fU.fClass), (.string k63_5.fU.fName), (vi k63_5.fU.fArgs), (vi k63_5.fU.fSlots), (vi k63_5.fU.fFrame), k63_5_w1, k63_5_w2, k63_5_w3, (vi k63_5.fE)]] → All2 ((rI .i64) g2) qo1_ls qo1 → All2 (G_api_Ins.rep g2) qo2_c5_ls qo2_c5 → All2 (G_api_Guard.rep g2) qo2_c6_ls qo2_c6 → k63 (vi qy0) h2) (H : cosignerref08_Cut_H c R r) : g_cosignerref08_Cut_J14 w0 E R (mkP v12_b 0) (mkP v70_b 0) (vi y64) k63 h := by
  unfold g_cosignerref08_Cut_J14
  unfold g_cosignerref08_Cut_J14_M at M
  refine WP_fieldAddr.2 ?_
  refine S.bld1 0 rfl rfl ?_
  refine S.bldN [(vi v70.fOp), (vi v70.fA), (vi v70.fB), (vi v70.fC)] 3 rfl rfl rfl (by decide) ?_
  refine S.bsl [[(vi v70.fOp), (vi v70.fA), (vi v70.fB), (vi v70.fC)]] (fillL_step (m := [(vi v70.fOp), (vi v70.fA), (vi v70.fB), (vi v70.fC)]) (l2 := [(vi v70.fOp), (vi v70.fA), (vi v70.fB), (vi v70.fC)]) rfl rfl (Nat.le_of_ble_eq_true rfl) rfl rfl) rfl (by decide) (sz_cons rfl sz_nil) (one_cons rfl (one_cons rfl (one_cons rfl (one_cons rfl rfl)))) (fun v_60 h S => ?_)
  have A_61 : All2 (G_api_Ins.rep g) [[(vi v70.fOp), (vi v70.fA), (vi v70.fB), (vi v70.fC)]] [v70] := (All2.push All2.nil (show G_api_Ins.rep g [(vi v70.fOp), (vi v70.fA), (vi v70.fB), (vi v70.fC)] v70 from rfl))
  have S := S.f2
  obtain ⟨hb_64, M⟩ := gu_some M
  refine S.app (S.rd 1 rfl) (by rw [v12_c5_A.1, A_61.1]; exact hb_64) (by decide) rfl (all_one G_api_Ins.one A_61) (all_one G_api_Ins.one v12_c5_A) (fun v_62 h S => ?_)
  have A_63 : All2 (G_api_Ins.rep g) (v12_c5_ls ++ [[(vi v70.fOp), (vi v70.fA), (vi v70.fB), (vi v70.fC)]]) (v12_c5 ++ [v70]) := All2.append v12_c5_A A_61
  refine WP_fieldAddr.2 ?_
  have S := S.f2
  refine S.bst [v_62] [(.string v12_c0), (.string v12_c1), (vi v12_c2), (vi v12_c3), (vi v12_c4), v_62, v12_c6_v] (cellsOf_one (S.own1 1 rfl)) rfl (one_cons (S.own1 1 rfl) rfl) (Nat.le_of_ble_eq_true rfl) rfl (fun h S => ?_)
  have S := S.f7
  have S := S.f4
  have S := S.f3
  have S := S.f3
  have S := S.f7
  have S := S.f7
  have S := S.t6
  exact g_cosignerref08_Cut_J11_lf M S k63_0_F1 k63_0_F2 k63_1_A A_63 v12_c6_A k63_5_F1 k63_5_F2 k63_5_F3 sbk63 Hk63 H
theorem g_cosignerref08_Cut_P1_lf {w0 : World} {c : Cx} {g h : AH} {E R : Value → W} {r : G_cosignerref08_Cutted} {N : Nat} {v70 : G_api_Ins} {v7 : List Int} {v12_c0 v12_c1 : ByteArray} {v12_c2 v12_c3 v12_c4 : Int} {v12_c5 : List G_api_Ins} {v12_c6 : List G_api_Guard} {y64 : Int} {v85 : Bool} {k63_0 : G_api_Unit} {k63_5 : G_cosignerref08_Cutted} {v70_b : Nat} {v7_v : Value} {v7_ls : List (List Value)} {v12_b : Nat} {v12_c5_v : Value} {v12_c5_ls : List (List Value)} {v12_c6_v : Value} {v12_c6_ls : List (List Value)} {k63_0_b : Nat} {k63_0_w1 k63_0_w2 : Value} {k63_5_b : Nat} {k63_5_w1 k63_5_w2 k63_5_w3 : Value} {k63 : Value → W} {k63M : Int → (List Int) → ByteArray → ByteArray → Int → Int → Int → (List G_api_Ins) → (List G_api_Guard) → Option G_cosignerref08_Cutted} {gbk63 : AH} (M : g_cosignerref08_Cut_P1_M N v70 v7 v12_c0 v12_c1 v12_c2 v12_c3 v12_c4 v12_c5 v12_c6 y64 v85 k63_0 k63_5 k63M = some r) (S : Sep c g h [.bx v70_b [(vi v70.fOp), (vi v70.fA), (vi v70.fB), (vi v70.fC)], .sl 3 1 v7_v v7_ls, .bx v12_b [(.string v12_c0), (.string v12_c1), (vi v12_c2), (vi v12_c3), (vi v12_c4), v12_c5_v, v12_c6_v], .sl 67 4 v12_c5_v v12_c5_ls, .sl 79 3 v12_c6_v v12_c6_ls, .bx k63_0_b [(.string k63_0.fClass), (.string k63_0.fName), (vi k63_0.fArgs), (vi k63_0.fSlots), (vi k63_0.fFrame), k63_0_w1, k63_0_w2], .bx k63_5_b [(.string k63_5.fU.fClass), (.string k63_5.fU.fName), (vi k63_5.fU.fArgs), (vi k63_5.fU.fSlots), (vi k63_5.fU.fFrame), k63_5_w1, k63_5_w2, k63_5_w3, (vi k63_5.fE)]]) (v7_A : All2 ((rI .i64) g) v7_ls v7) (v12_c5_A : All2 (G_api_Ins.rep g) v12_c5_ls v12_c5) (v12_c6_A : All2 (G_api_Guard.rep g) v12_c6_ls v12_c6) (k63_0_F1 : FzS G_api_Ins.rep 4 g k63_0_w1 k63_0.fCode) (k63_0_F2 : FzS G_api_Guard.rep 3 g k63_0_w2 k63_0.fGuards) (k63_5_F1 : FzS G_api_Ins.rep 4 g k63_5_w1 k63_5.fU.fCode) (k63_5_F2 : FzS G_api_Guard.rep 3 g k63_5_w2 k63_5.fU.fGuards) (k63_5_F3 : FzS (rI .i64) 1 g k63_5_w3 k63_5.fAt) (sbk63 : Sub gbk63 g) (Hk63 : ∀ {qy0 : Int} {qo1 : List Int} {qo1_ls : List (List Value)} {qo2_c0 qo2_c1 : ByteArray} {qo2_c2 qo2_c3 qo2_c4 : Int} {qo2_c5 : List G_api_Ins} {qo2_c5_v : Value} {qo2_c5_ls : List (List Value)} {qo2_c6 : List G_api_Guard} {qo2_c6_v : Value} {qo2_c6_ls : List (List Value)} {g2 h2 : AH}, k63M qy0 qo1 qo2_c0 qo2_c1 qo2_c2 qo2_c3 qo2_c4 qo2_c5 qo2_c6 = some r → Sub gbk63 g2 → Sep c g2 h2 [.bx k63_0_b [(.string k63_0.fClass), (.string k63_0.fName), (vi k63_0.fArgs), (vi k63_0.fSlots), (vi k63_0.fFrame), k63_0_w1, k63_0_w2], .sl 3 1 v7_v qo1_ls, .bx v12_b [(.string qo2_c0), (.string qo2_c1), (vi qo2_c2), (vi qo2_c3), (vi qo2_c4), qo2_c5_v, qo2_c6_v], .sl 67 4 qo2_c5_v qo2_c5_ls, .sl 79 3 qo2_c6_v qo2_c6_ls, .bx k63_5_b [(.string k63_5.fU.fClass), (.string k63_5.fU.fName), (vi k63_5.fU.fArgs), (vi k63_5.fU.fSlots), (vi k63_5.fU.fFrame), k63_5_w1, k63_5_w2, k63_5_w3, (vi k63_5.fE)]] → All2 ((rI .i64) g2) qo1_ls qo1 → All2 (G_api_Ins.rep g2) qo2_c5_ls qo2_c5 → All2 (G_api_Guard.rep g2) qo2_c6_ls qo2_c6 → k63 (vi qy0) h2) (H : cosignerref08_Cut_H c R r) : g_cosignerref08_Cut_P1 w0 E R (mkP v70_b 0) v7_v (mkP v12_b 0) (vi y64) k63 (.bool v85) h := by
  unfold g_cosignerref08_Cut_P1
  unfold g_cosignerref08_Cut_P1_M at M
  refine br_lf (fun hc => ?_) (fun hc => ?_)
  · have M := cond_T hc M
    refine WP_fieldAddr.2 ?_
    refine S.bld1 0 rfl rfl ?_
    obtain ⟨c_54, hx_55, M⟩ := bind_some M
    refine S.oidx 1 rfl v7_A hx_55 (fun b_56 o_57 vs E_58 hc_59 rp => ?_)
    cases rp
    refine S.old1 (j := 0) 1 rfl E_58 hc_59 rfl ?_
    refine WP_fieldAddr.2 ?_
    refine S.bst [(vi c_54)] [(vi v70.fOp), (vi v70.fA), (vi c_54), (vi v70.fC)] rfl rfl (one_cons rfl rfl) (Nat.le_of_ble_eq_true rfl) rfl (fun h S => ?_)
    have S := S.f6
    have S := S.f2
    have S := S.f6
    have S := S.f3
    have S := S.f6
    have S := S.f6
    have S := S.f6
    exact g_cosignerref08_Cut_J14_lf M S v12_c5_A v12_c6_A k63_0_F1 k63_0_F2 v7_A k63_5_F1 k63_5_F2 k63_5_F3 sbk63 Hk63 H
  · have M := cond_F hc M
    have S := S.f6
    have S := S.f2
    have S := S.f6
    have S := S.f3
    have S := S.f6
    have S := S.f6
    have S := S.f6
    exact g_cosignerref08_Cut_J14_lf M S v12_c5_A v12_c6_A k63_0_F1 k63_0_F2 v7_A k63_5_F1 k63_5_F2 k63_5_F3 sbk63 Hk63 H
theorem g_cosignerref08_Cut_J13_lf {w0 : World} {c : Cx} {g h : AH} {E R : Value → W} {r : G_cosignerref08_Cutted} {N : Nat} {v70 : G_api_Ins} {v7 : List Int} {v12_c0 v12_c1 : ByteArray} {v12_c2 v12_c3 v12_c4 : Int} {v12_c5 : List G_api_Ins} {v12_c6 : List G_api_Guard} {y64 : Int} {k63_0 : G_api_Unit} {k63_5 : G_cosignerref08_Cutted} {v70_b : Nat} {v7_v : Value} {v7_ls : List (List Value)} {v12_b : Nat} {v12_c5_v : Value} {v12_c5_ls : List (List Value)} {v12_c6_v : Value} {v12_c6_ls : List (List Value)} {k63_0_b : Nat} {k63_0_w1 k63_0_w2 : Value} {k63_5_b : Nat} {k63_5_w1 k63_5_w2 k63_5_w3 : Value} {k63 : Value → W} {k63M : Int → (List Int) → ByteArray → ByteArray → Int → Int → Int → (List G_api_Ins) → (List G_api_Guard) → Option G_cosignerref08_Cutted} {gbk63 : AH} (M : g_cosignerref08_Cut_J13_M N v70 v7 v12_c0 v12_c1 v12_c2 v12_c3 v12_c4 v12_c5 v12_c6 y64 k63_0 k63_5 k63M = some r) (S : Sep c g h [.bx v70_b [(vi v70.fOp), (vi v70.fA), (vi v70.fB), (vi v70.fC)], .sl 3 1 v7_v v7_ls, .bx v12_b [(.string v12_c0), (.string v12_c1), (vi v12_c2), (vi v12_c3), (vi v12_c4), v12_c5_v, v12_c6_v], .sl 67 4 v12_c5_v v12_c5_ls, .sl 79 3 v12_c6_v v12_c6_ls, .bx k63_0_b [(.string k63_0.fClass), (.string k63_0.fName), (vi k63_0.fArgs), (vi k63_0.fSlots), (vi k63_0.fFrame), k63_0_w1, k63_0_w2], .bx k63_5_b [(.string k63_5.fU.fClass), (.string k63_5.fU.fName), (vi k63_5.fU.fArgs), (vi k63_5.fU.fSlots), (vi k63_5.fU.fFrame), k63_5_w1, k63_5_w2, k63_5_w3, (vi k63_5.fE)]]) (v7_A : All2 ((rI .i64) g) v7_ls v7) (v12_c5_A : All2 (G_api_Ins.rep g) v12_c5_ls v12_c5) (v12_c6_A : All2 (G_api_Guard.rep g) v12_c6_ls v12_c6) (k63_0_F1 : FzS G_api_Ins.rep 4 g k63_0_w1 k63_0.fCode) (k63_0_F2 : FzS G_api_Guard.rep 3 g k63_0_w2 k63_0.fGuards) (k63_5_F1 : FzS G_api_Ins.rep 4 g k63_5_w1 k63_5.fU.fCode) (k63_5_F2 : FzS G_api_Guard.rep 3 g k63_5_w2 k63_5.fU.fGuards) (k63_5_F3 : FzS (rI .i64) 1 g k63_5_w3 k63_5.fAt) (sbk63 : Sub gbk63 g) (Hk63 : ∀ {qy0 : Int} {qo1 : List Int} {qo1_ls : List (List Value)} {qo2_c0 qo2_c1 : ByteArray} {qo2_c2 qo2_c3 qo2_c4 : Int} {qo2_c5 : List G_api_Ins} {qo2_c5_v : Value} {qo2_c5_ls : List (List Value)} {qo2_c6 : List G_api_Guard} {qo2_c6_v : Value} {qo2_c6_ls : List (List Value)} {g2 h2 : AH}, k63M qy0 qo1 qo2_c0 qo2_c1 qo2_c2 qo2_c3 qo2_c4 qo2_c5 qo2_c6 = some r → Sub gbk63 g2 → Sep c g2 h2 [.bx k63_0_b [(.string k63_0.fClass), (.string k63_0.fName), (vi k63_0.fArgs), (vi k63_0.fSlots), (vi k63_0.fFrame), k63_0_w1, k63_0_w2], .sl 3 1 v7_v qo1_ls, .bx v12_b [(.string qo2_c0), (.string qo2_c1), (vi qo2_c2), (vi qo2_c3), (vi qo2_c4), qo2_c5_v, qo2_c6_v], .sl 67 4 qo2_c5_v qo2_c5_ls, .sl 79 3 qo2_c6_v qo2_c6_ls, .bx k63_5_b [(.string k63_5.fU.fClass), (.string k63_5.fU.fName), (vi k63_5.fU.fArgs), (vi k63_5.fU.fSlots), (vi k63_5.fU.fFrame), k63_5_w1, k63_5_w2, k63_5_w3, (vi k63_5.fE)]] → All2 ((rI .i64) g2) qo1_ls qo1 → All2 (G_api_Ins.rep g2) qo2_c5_ls qo2_c5 → All2 (G_api_Guard.rep g2) qo2_c6_ls qo2_c6 → k63 (vi qy0) h2) (H : cosignerref08_Cut_H c R r) : g_cosignerref08_Cut_J13 w0 E R (mkP v70_b 0) v7_v (mkP v12_b 0) (vi y64) k63 h := by
  unfold g_cosignerref08_Cut_J13
  unfold g_cosignerref08_Cut_J13_M at M
  refine WP_fieldAddr.2 ?_
  refine S.bld1 0 rfl rfl ?_
  refine WP_eql.2 ?_
  cases hc : (decide (v70.fOp = 25))
  · have M := cond_F hc M
    refine gd_hit rfl ?_
    refine WP_fieldAddr.2 ?_
    refine gd_hit rfl ?_
    refine S.bld1 0 rfl rfl ?_
    refine gd_hit rfl ?_
    refine WP_eql.2 ?_
    refine WP_pick.2 ?_
    exact g_cosignerref08_Cut_P1_lf M S v7_A v12_c5_A v12_c6_A k63_0_F1 k63_0_F2 k63_5_F1 k63_5_F2 k63_5_F3 sbk63 Hk63 H
  · have M := cond_T hc M
    refine gd_mis (by decide) ?_
    refine gd_mis (by decide) ?_
    refine gd_mis (by decide) ?_
    refine WP_pick.2 ?_
    exact g_cosignerref08_Cut_P1_lf M S v7_A v12_c5_A v12_c6_A k63_0_F1 k63_0_F2 k63_5_F1 k63_5_F2 k63_5_F3 sbk63 Hk63 H
theorem g_cosignerref08_Cut_J12_lf {w0 : World} {c : Cx} {g h : AH} {E R : Value → W} {r : G_cosignerref08_Cutted} {N : Nat} {v1 : G_api_Unit} {y64 : Int} {v7 : List Int} {v12_c0 v12_c1 : ByteArray} {v12_c2 v12_c3 v12_c4 : Int} {v12_c5 : List G_api_Ins} {v12_c6 : List G_api_Guard} {k63_5 : G_cosignerref08_Cutted} {v1_b : Nat} {v1_w1 v1_w2 v7_v : Value} {v7_ls : List (List Value)} {v12_b : Nat} {v12_c5_v : Value} {v12_c5_ls : List (List Value)} {v12_c6_v : Value} {v12_c6_ls : List (List Value)} {k63_5_b : Nat} {k63_5_w1 k63_5_w2 k63_5_w3 : Value} {k63 : Value → W} {k63M : Int → (List Int) → ByteArray → ByteArray → Int → Int → Int → (List G_api_Ins) → (List G_api_Guard) → Option G_cosignerref08_Cutted} {gbk63 : AH} (M : g_cosignerref08_Cut_J12_M N v1 y64 v7 v12_c0 v12_c1 v12_c2 v12_c3 v12_c4 v12_c5 v12_c6 k63_5 k63M = some r) (S : Sep c g h [.bx v1_b [(.string v1.fClass), (.string v1.fName), (vi v1.fArgs), (vi v1.fSlots), (vi v1.fFrame), v1_w1, v1_w2], .sl 3 1 v7_v v7_ls, .bx v12_b [(.string v12_c0), (.string v12_c1), (vi v12_c2), (vi v12_c3), (vi v12_c4), v12_c5_v, v12_c6_v], .sl 67 4 v12_c5_v v12_c5_ls, .sl 79 3 v12_c6_v v12_c6_ls, .bx k63_5_b [(.string k63_5.fU.fClass), (.string k63_5.fU.fName), (vi k63_5.fU.fArgs), (vi k63_5.fU.fSlots), (vi k63_5.fU.fFrame), k63_5_w1, k63_5_w2, k63_5_w3, (vi k63_5.fE)]]) (v1_F1 : FzS G_api_Ins.rep 4 g v1_w1 v1.fCode) (v1_F2 : FzS G_api_Guard.rep 3 g v1_w2 v1.fGuards) (v7_A : All2 ((rI .i64) g) v7_ls v7) (v12_c5_A : All2 (G_api_Ins.rep g) v12_c5_ls v12_c5) (v12_c6_A : All2 (G_api_Guard.rep g) v12_c6_ls v12_c6) (k63_5_F1 : FzS G_api_Ins.rep 4 g k63_5_w1 k63_5.fU.fCode) (k63_5_F2 : FzS G_api_Guard.rep 3 g k63_5_w2 k63_5.fU.fGuards) (k63_5_F3 : FzS (rI .i64) 1 g k63_5_w3 k63_5.fAt) (sbk63 : Sub gbk63 g) (Hk63 : ∀ {qy0 : Int} {qo1 : List Int} {qo1_ls : List (List Value)} {qo2_c0 qo2_c1 : ByteArray} {qo2_c2 qo2_c3 qo2_c4 : Int} {qo2_c5 : List G_api_Ins} {qo2_c5_v : Value} {qo2_c5_ls : List (List Value)} {qo2_c6 : List G_api_Guard} {qo2_c6_v : Value} {qo2_c6_ls : List (List Value)} {g2 h2 : AH}, k63M qy0 qo1 qo2_c0 qo2_c1 qo2_c2 qo2_c3 qo2_c4 qo2_c5 qo2_c6 = some r → Sub gbk63 g2 → Sep c g2 h2 [.bx v1_b [(.string v1.fClass), (.string v1.fName), (vi v1.fArgs), (vi v1.fSlots), (vi v1.fFrame), v1_w1, v1_w2], .sl 3 1 v7_v qo1_ls, .bx v12_b [(.string qo2_c0), (.string qo2_c1), (vi qo2_c2), (vi qo2_c3), (vi qo2_c4), qo2_c5_v, qo2_c6_v], .sl 67 4 qo2_c5_v qo2_c5_ls, .sl 79 3 qo2_c6_v qo2_c6_ls, .bx k63_5_b [(.string k63_5.fU.fClass), (.string k63_5.fU.fName), (vi k63_5.fU.fArgs), (vi k63_5.fU.fSlots), (vi k63_5.fU.fFrame), k63_5_w1, k63_5_w2, k63_5_w3, (vi k63_5.fE)]] → All2 ((rI .i64) g2) qo1_ls qo1 → All2 (G_api_Ins.rep g2) qo2_c5_ls qo2_c5 → All2 (G_api_Guard.rep g2) qo2_c6_ls qo2_c6 → k63 (vi qy0) h2) (H : cosignerref08_Cut_H c R r) : g_cosignerref08_Cut_J12 w0 E R (mkP v1_b 0) (vi y64) v7_v (mkP v12_b 0) k63 h := by
  unfold g_cosignerref08_Cut_J12
  unfold g_cosignerref08_Cut_J12_M at M
  refine WP_fieldAddr.2 ?_
  refine S.bld1 0 rfl rfl ?_
  obtain ⟨c_41, hx_42, M⟩ := bind_some M
  refine FzS.idx v1_F1 hx_42 (fun b_43 o_44 vs E_46 r_45 rp => ?_)
  cases rp
  refine S.fldN r_45 rfl (by decide) ?_
  refine S.alloc (l := [(vi 0), (vi 0), (vi 0), (vi 0)]) (one_cons rfl (one_cons rfl (one_cons rfl (one_cons rfl rfl)))) (fun b_47 h S => ?_)
  refine S.bst [(vi c_41.fOp), (vi c_41.fA), (vi c_41.fB), (vi c_41.fC)] [(vi c_41.fOp), (vi c_41.fA), (vi c_41.fB), (vi c_41.fC)] rfl rfl (one_cons rfl (one_cons rfl (one_cons rfl (one_cons rfl rfl)))) (Nat.le_of_ble_eq_true rfl) rfl (fun h S => ?_)
  refine WP_fieldAddr.2 ?_
  refine S.bld1 0 rfl rfl ?_
  refine WP_eql.2 ?_
  refine br_lf (fun hc => ?_) (fun hc => ?_)
  · have M := cond_T hc M
    refine WP_fieldAddr.2 ?_
    refine S.bld1 0 rfl rfl ?_
    obtain ⟨c_48, hx_49, M⟩ := bind_some M
    refine S.oidx 2 rfl v7_A hx_49 (fun b_50 o_51 vs E_52 hc_53 rp => ?_)
    cases rp
    refine S.old1 (j := 0) 2 rfl E_52 hc_53 rfl ?_
    refine WP_fieldAddr.2 ?_
    refine S.bst [(vi c_48)] [(vi c_41.fOp), (vi c_48), (vi c_41.fB), (vi c_41.fC)] rfl rfl (one_cons rfl rfl) (Nat.le_of_ble_eq_true rfl) rfl (fun h S => ?_)
    have S := S.f6
    have S := S.f2
    have S := S.f6
    have S := S.f6
    have S := S.f6
    have S := S.f6
    have S := S.f6
    exact g_cosignerref08_Cut_J13_lf M S v7_A v12_c5_A v12_c6_A v1_F1 v1_F2 k63_5_F1 k63_5_F2 k63_5_F3 sbk63 Hk63 H
  · have M := cond_F hc M
    have S := S.f6
    have S := S.f2
    have S := S.f6
    have S := S.f6
    have S := S.f6
    have S := S.f6
    have S := S.f6
    exact g_cosignerref08_Cut_J13_lf M S v7_A v12_c5_A v12_c6_A v1_F1 v1_F2 k63_5_F1 k63_5_F2 k63_5_F3 sbk63 Hk63 H
theorem g_cosignerref08_Cut_J10_lf {w0 : World} {c : Cx} {g h : AH} {E R : Value → W} {r : G_cosignerref08_Cutted} {N : Nat} {x1 : List Bool} {y64 : Int} {v1 : G_api_Unit} {v7 : List Int} {v12_c0 v12_c1 : ByteArray} {v12_c2 v12_c3 v12_c4 : Int} {v12_c5 : List G_api_Ins} {v12_c6 : List G_api_Guard} {k63_5 : G_cosignerref08_Cutted} {x1_v : Value} {v1_b : Nat} {v1_w1 v1_w2 v7_v : Value} {v7_ls : List (List Value)} {v12_b : Nat} {v12_c5_v : Value} {v12_c5_ls : List (List Value)} {v12_c6_v : Value} {v12_c6_ls : List (List Value)} {k63_5_b : Nat} {k63_5_w1 k63_5_w2 k63_5_w3 : Value} {k63 : Value → W} {k63M : Int → (List Int) → ByteArray → ByteArray → Int → Int → Int → (List G_api_Ins) → (List G_api_Guard) → Option G_cosignerref08_Cutted} {gbk63 : AH} (M : g_cosignerref08_Cut_J10_M N x1 y64 v1 v7 v12_c0 v12_c1 v12_c2 v12_c3 v12_c4 v12_c5 v12_c6 k63_5 k63M = some r) (S : Sep c g h [.bx v1_b [(.string v1.fClass), (.string v1.fName), (vi v1.fArgs), (vi v1.fSlots), (vi v1.fFrame), v1_w1, v1_w2], .sl 3 1 v7_v v7_ls, .bx v12_b [(.string v12_c0), (.string v12_c1), (vi v12_c2), (vi v12_c3), (vi v12_c4), v12_c5_v, v12_c6_v], .sl 67 4 v12_c5_v v12_c5_ls, .sl 79 3 v12_c6_v v12_c6_ls, .bx k63_5_b [(.string k63_5.fU.fClass), (.string k63_5.fU.fName), (vi k63_5.fU.fArgs), (vi k63_5.fU.fSlots), (vi k63_5.fU.fFrame), k63_5_w1, k63_5_w2, k63_5_w3, (vi k63_5.fE)]]) (x1_F : FzS rB 1 g x1_v x1) (v1_F1 : FzS G_api_Ins.rep 4 g v1_w1 v1.fCode) (v1_F2 : FzS G_api_Guard.rep 3 g v1_w2 v1.fGuards) (v7_A : All2 ((rI .i64) g) v7_ls v7) (v12_c5_A : All2 (G_api_Ins.rep g) v12_c5_ls v12_c5) (v12_c6_A : All2 (G_api_Guard.rep g) v12_c6_ls v12_c6) (k63_5_F1 : FzS G_api_Ins.rep 4 g k63_5_w1 k63_5.fU.fCode) (k63_5_F2 : FzS G_api_Guard.rep 3 g k63_5_w2 k63_5.fU.fGuards) (k63_5_F3 : FzS (rI .i64) 1 g k63_5_w3 k63_5.fAt) (sbk63 : Sub gbk63 g) (Hk63 : ∀ {qy0 : Int} {qo1 : List Int} {qo1_ls : List (List Value)} {qo2_c0 qo2_c1 : ByteArray} {qo2_c2 qo2_c3 qo2_c4 : Int} {qo2_c5 : List G_api_Ins} {qo2_c5_v : Value} {qo2_c5_ls : List (List Value)} {qo2_c6 : List G_api_Guard} {qo2_c6_v : Value} {qo2_c6_ls : List (List Value)} {g2 h2 : AH}, k63M qy0 qo1 qo2_c0 qo2_c1 qo2_c2 qo2_c3 qo2_c4 qo2_c5 qo2_c6 = some r → Sub gbk63 g2 → Sep c g2 h2 [.bx v1_b [(.string v1.fClass), (.string v1.fName), (vi v1.fArgs), (vi v1.fSlots), (vi v1.fFrame), v1_w1, v1_w2], .sl 3 1 v7_v qo1_ls, .bx v12_b [(.string qo2_c0), (.string qo2_c1), (vi qo2_c2), (vi qo2_c3), (vi qo2_c4), qo2_c5_v, qo2_c6_v], .sl 67 4 qo2_c5_v qo2_c5_ls, .sl 79 3 qo2_c6_v qo2_c6_ls, .bx k63_5_b [(.string k63_5.fU.fClass), (.string k63_5.fU.fName), (vi k63_5.fU.fArgs), (vi k63_5.fU.fSlots), (vi k63_5.fU.fFrame), k63_5_w1, k63_5_w2, k63_5_w3, (vi k63_5.fE)]] → All2 ((rI .i64) g2) qo1_ls qo1 → All2 (G_api_Ins.rep g2) qo2_c5_ls qo2_c5 → All2 (G_api_Guard.rep g2) qo2_c6_ls qo2_c6 → k63 (vi qy0) h2) (H : cosignerref08_Cut_H c R r) : g_cosignerref08_Cut_J10 w0 E R x1_v (vi y64) k63 (mkP v1_b 0) v7_v (mkP v12_b 0) h := by
  unfold g_cosignerref08_Cut_J10
  unfold g_cosignerref08_Cut_J10_M at M
  obtain ⟨c_35, hx_36, M⟩ := bind_some M
  refine FzS.idx x1_F hx_36 (fun b_37 o_38 vs E_40 r_39 rp => ?_)
  cases rp
  refine S.fld1 (r_39 0 _ rfl) ?_
  refine WP_notB.2 ?_
  refine br_lf (fun hc => ?_) (fun hc => ?_)
  · have M := cond_T hc M
    exact g_cosignerref08_Cut_J11_lf M S v1_F1 v1_F2 v7_A v12_c5_A v12_c6_A k63_5_F1 k63_5_F2 k63_5_F3 sbk63 Hk63 H
  · have M := cond_F hc M
    exact g_cosignerref08_Cut_J12_lf M S v1_F1 v1_F2 v7_A v12_c5_A v12_c6_A k63_5_F1 k63_5_F2 k63_5_F3 sbk63 Hk63 H
theorem g_cosignerref08_Cut_J8_lf {w0 : World} {c : Cx} {g h : AH} {E R : Value → W} {r : G_cosignerref08_Cutted} {N : Nat} {y24 : Int} {k23_0 : G_api_Unit} {k23_1 : List Int} {k23_2_c0 k23_2_c1 : ByteArray} {k23_2_c2 k23_2_c3 k23_2_c4 : Int} {k23_2_c5 : List G_api_Ins} {k23_2_c6 : List G_api_Guard} {k23_5 : G_cosignerref08_Cutted} {k23_0_b : Nat} {k23_0_w1 k23_0_w2 k23_1_v : Value} {k23_1_ls : List (List Value)} {k23_2_b : Nat} {k23_2_c5_v : Value} {k23_2_c5_ls : List (List Value)} {k23_2_c6_v : Value} {k23_2_c6_ls : List (List Value)} {k23_5_b : Nat} {k23_5_w1 k23_5_w2 k23_5_w3 : Value} {k23 : Value → W} {k23M : Int → (List Int) → ByteArray → ByteArray → Int → Int → Int → (List G_api_Ins) → (List G_api_Guard) → Option G_cosignerref08_Cutted} {gbk23 : AH} (M : g_cosignerref08_Cut_J8_M N y24 k23_0 k23_1 k23_2_c0 k23_2_c1 k23_2_c2 k23_2_c3 k23_2_c4 k23_2_c5 k23_2_c6 k23_5 k23M = some r) (S : Sep c g h [.bx k23_0_b [(.string k23_0.fClass), (.string k23_0.fName), (vi k23_0.fArgs), (vi k23_0.fSlots), (vi k23_0.fFrame), k23_0_w1, k23_0_w2], .sl 3 1 k23_1_v k23_1_ls, .bx k23_2_b [(.string k23_2_c0), (.string k23_2_c1), (vi k23_2_c2), (vi k23_2_c3), (vi k23_2_c4), k23_2_c5_v, k23_2_c6_v], .sl 67 4 k23_2_c5_v k23_2_c5_ls, .sl 79 3 k23_2_c6_v k23_2_c6_ls, .bx k23_5_b [(.string k23_5.fU.fClass), (.string k23_5.fU.fName), (vi k23_5.fU.fArgs), (vi k23_5.fU.fSlots), (vi k23_5.fU.fFrame), k23_5_w1, k23_5_w2, k23_5_w3, (vi k23_5.fE)]]) (k23_0_F1 : FzS G_api_Ins.rep 4 g k23_0_w1 k23_0.fCode) (k23_0_F2 : FzS G_api_Guard.rep 3 g k23_0_w2 k23_0.fGuards) (k23_1_A : All2 ((rI .i64) g) k23_1_ls k23_1) (k23_2_c5_A : All2 (G_api_Ins.rep g) k23_2_c5_ls k23_2_c5) (k23_2_c6_A : All2 (G_api_Guard.rep g) k23_2_c6_ls k23_2_c6) (k23_5_F1 : FzS G_api_Ins.rep 4 g k23_5_w1 k23_5.fU.fCode) (k23_5_F2 : FzS G_api_Guard.rep 3 g k23_5_w2 k23_5.fU.fGuards) (k23_5_F3 : FzS (rI .i64) 1 g k23_5_w3 k23_5.fAt) (sbk23 : Sub gbk23 g) (Hk23 : ∀ {qy0 : Int} {qo1 : List Int} {qo1_ls : List (List Value)} {qo2_c0 qo2_c1 : ByteArray} {qo2_c2 qo2_c3 qo2_c4 : Int} {qo2_c5 : List G_api_Ins} {qo2_c5_v : Value} {qo2_c5_ls : List (List Value)} {qo2_c6 : List G_api_Guard} {qo2_c6_v : Value} {qo2_c6_ls : List (List Value)} {g2 h2 : AH}, k23M qy0 qo1 qo2_c0 qo2_c1 qo2_c2 qo2_c3 qo2_c4 qo2_c5 qo2_c6 = some r → Sub gbk23 g2 → Sep c g2 h2 [.bx k23_0_b [(.string k23_0.fClass), (.string k23_0.fName), (vi k23_0.fArgs), (vi k23_0.fSlots), (vi k23_0.fFrame), k23_0_w1, k23_0_w2], .sl 3 1 k23_1_v qo1_ls, .bx k23_2_b [(.string qo2_c0), (.string qo2_c1), (vi qo2_c2), (vi qo2_c3), (vi qo2_c4), qo2_c5_v, qo2_c6_v], .sl 67 4 qo2_c5_v qo2_c5_ls, .sl 79 3 qo2_c6_v qo2_c6_ls, .bx k23_5_b [(.string k23_5.fU.fClass), (.string k23_5.fU.fName), (vi k23_5.fU.fArgs), (vi k23_5.fU.fSlots), (vi k23_5.fU.fFrame), k23_5_w1, k23_5_w2, k23_5_w3, (vi k23_5.fE)]] → All2 ((rI .i64) g2) qo1_ls qo1 → All2 (G_api_Ins.rep g2) qo2_c5_ls qo2_c5 → All2 (G_api_Guard.rep g2) qo2_c6_ls qo2_c6 → k23 (vi qy0) h2) (H : cosignerref08_Cut_H c R r) : g_cosignerref08_Cut_J8 w0 E R (vi y24) k23 h := by
  unfold g_cosignerref08_Cut_J8
  unfold g_cosignerref08_Cut_J8_M at M
  refine WP_add.2 ?_
  exact Hk23 M sbk23 S k23_1_A k23_2_c5_A k23_2_c6_A
theorem g_cosignerref08_Cut_J7_lf {w0 : World} {c : Cx} {g h : AH} {E R : Value → W} {r : G_cosignerref08_Cutted} {N : Nat} {v1 : G_api_Unit} {y24 : Int} {v7 : List Int} {v12_c0 v12_c1 : ByteArray} {v12_c2 v12_c3 v12_c4 : Int} {v12_c5 : List G_api_Ins} {v12_c6 : List G_api_Guard} {k23_5 : G_cosignerref08_Cutted} {v1_b : Nat} {v1_w1 v1_w2 v7_v : Value} {v7_ls : List (List Value)} {v12_b : Nat} {v12_c5_v : Value} {v12_c5_ls : List (List Value)} {v12_c6_v : Value} {v12_c6_ls : List (List Value)} {k23_5_b : Nat} {k23_5_w1 k23_5_w2 k23_5_w3 : Value} {k23 : Value → W} {k23M : Int → (List Int) → ByteArray → ByteArray → Int → Int → Int → (List G_api_Ins) → (List G_api_Guard) → Option G_cosignerref08_Cutted} {gbk23 : AH} (M : g_cosignerref08_Cut_J7_M N v1 y24 v7 v12_c0 v12_c1 v12_c2 v12_c3 v12_c4 v12_c5 v12_c6 k23_5 k23M = some r) (S : Sep c g h [.bx v1_b [(.string v1.fClass), (.string v1.fName), (vi v1.fArgs), (vi v1.fSlots), (vi v1.fFrame), v1_w1, v1_w2], .sl 3 1 v7_v v7_ls, .bx v12_b [(.string v12_c0), (.string v12_c1), (vi v12_c2), (vi v12_c3), (vi v12_c4), v12_c5_v, v12_c6_v], .sl 67 4 v12_c5_v v12_c5_ls, .sl 79 3 v12_c6_v v12_c6_ls, .bx k23_5_b [(.string k23_5.fU.fClass), (.string k23_5.fU.fName), (vi k23_5.fU.fArgs), (vi k23_5.fU.fSlots), (vi k23_5.fU.fFrame), k23_5_w1, k23_5_w2, k23_5_w3, (vi k23_5.fE)]]) (v1_F1 : FzS G_api_Ins.rep 4 g v1_w1 v1.fCode) (v1_F2 : FzS G_api_Guard.rep 3 g v1_w2 v1.fGuards) (v7_A : All2 ((rI .i64) g) v7_ls v7) (v12_c5_A : All2 (G_api_Ins.rep g) v12_c5_ls v12_c5) (v12_c6_A : All2 (G_api_Guard.rep g) v12_c6_ls v12_c6) (k23_5_F1 : FzS G_api_Ins.rep 4 g k23_5_w1 k23_5.fU.fCode) (k23_5_F2 : FzS G_api_Guard.rep 3 g k23_5_w2 k23_5.fU.fGuards) (k23_5_F3 : FzS (rI .i64) 1 g k23_5_w3 k23_5.fAt) (sbk23 : Sub gbk23 g) (Hk23 : ∀ {qy0 : Int} {qo1 : List Int} {qo1_ls : List (List Value)} {qo2_c0 qo2_c1 : ByteArray} {qo2_c2 qo2_c3 qo2_c4 : Int} {qo2_c5 : List G_api_Ins} {qo2_c5_v : Value} {qo2_c5_ls : List (List Value)} {qo2_c6 : List G_api_Guard} {qo2_c6_v : Value} {qo2_c6_ls : List (List Value)} {g2 h2 : AH}, k23M qy0 qo1 qo2_c0 qo2_c1 qo2_c2 qo2_c3 qo2_c4 qo2_c5 qo2_c6 = some r → Sub gbk23 g2 → Sep c g2 h2 [.bx v1_b [(.string v1.fClass), (.string v1.fName), (vi v1.fArgs), (vi v1.fSlots), (vi v1.fFrame), v1_w1, v1_w2], .sl 3 1 v7_v qo1_ls, .bx v12_b [(.string qo2_c0), (.string qo2_c1), (vi qo2_c2), (vi qo2_c3), (vi qo2_c4), qo2_c5_v, qo2_c6_v], .sl 67 4 qo2_c5_v qo2_c5_ls, .sl 79 3 qo2_c6_v qo2_c6_ls, .bx k23_5_b [(.string k23_5.fU.fClass), (.string k23_5.fU.fName), (vi k23_5.fU.fArgs), (vi k23_5.fU.fSlots), (vi k23_5.fU.fFrame), k23_5_w1, k23_5_w2, k23_5_w3, (vi k23_5.fE)]] → All2 ((rI .i64) g2) qo1_ls qo1 → All2 (G_api_Ins.rep g2) qo2_c5_ls qo2_c5 → All2 (G_api_Guard.rep g2) qo2_c6_ls qo2_c6 → k23 (vi qy0) h2) (H : cosignerref08_Cut_H c R r) : g_cosignerref08_Cut_J7 w0 E R (mkP v1_b 0) (vi y24) v7_v (mkP v12_b 0) k23 h := by
  unfold g_cosignerref08_Cut_J7
  unfold g_cosignerref08_Cut_J7_M at M
  refine WP_fieldAddr.2 ?_
  refine S.bld1 0 rfl rfl ?_
  obtain ⟨c_65, hx_66, M⟩ := bind_some M
  refine FzS.idx v1_F2 hx_66 (fun b_67 o_68 vs E_70 r_69 rp => ?_)
  cases rp
  refine S.fldN r_69 rfl (by decide) ?_
  refine S.alloc (l := [(vi 0), (vi 0), (vi 0)]) (one_cons rfl (one_cons rfl (one_cons rfl rfl))) (fun b_71 h S => ?_)
  refine S.bst [(vi c_65.fFrom), (vi c_65.fTo), (vi c_65.fAt)] [(vi c_65.fFrom), (vi c_65.fTo), (vi c_65.fAt)] rfl rfl (one_cons rfl (one_cons rfl (one_cons rfl rfl))) (Nat.le_of_ble_eq_true rfl) rfl (fun h S => ?_)
  refine WP_fieldAddr.2 ?_
  refine S.bld1 0 rfl rfl ?_
  obtain ⟨c_72, hx_73, M⟩ := bind_some M
  refine S.oidx 2 rfl v7_A hx_73 (fun b_74 o_75 vs E_76 hc_77 rp => ?_)
  cases rp
  refine S.old1 (j := 0) 2 rfl E_76 hc_77 rfl ?_
  refine WP_fieldAddr.2 ?_
  refine S.bld1 0 rfl rfl ?_
  obtain ⟨c_78, hx_79, M⟩ := bind_some M
  refine S.oidx 2 rfl v7_A hx_79 (fun b_80 o_81 vs E_82 hc_83 rp => ?_)
  cases rp
  refine S.old1 (j := 0) 2 rfl E_82 hc_83 rfl ?_
  refine WP_fieldAddr.2 ?_
  refine S.bld1 0 rfl rfl ?_
  obtain ⟨c_84, hx_85, M⟩ := bind_some M
  refine S.oidx 2 rfl v7_A hx_85 (fun b_86 o_87 vs E_88 hc_89 rp => ?_)
  cases rp
  refine S.old1 (j := 0) 2 rfl E_88 hc_89 rfl ?_
  refine WPb [(vi c_72), (vi c_78), (vi c_84)] (by simp only [sizL, cellsOf_agg, cellsOf_int, cellsOf_bool, cellsOf_str,  List.length_cons, List.length_nil, Nat.reduceAdd, Nat.zero_add, decide_true, Bool.and_self]) (by simp only [List.flatMap_cons, List.flatMap_nil, cellsOf_agg, cellsOf_int, cellsOf_bool, cellsOf_str,  List.cons_append, List.nil_append, List.append_nil]) ?_
  refine S.alloc (l := [(vi 0), (vi 0), (vi 0)]) (one_cons rfl (one_cons rfl (one_cons rfl rfl))) (fun b_90 h S => ?_)
  refine S.bst [(vi c_72), (vi c_78), (vi c_84)] [(vi c_72), (vi c_78), (vi c_84)] rfl rfl (one_cons rfl (one_cons rfl (one_cons rfl rfl))) (Nat.le_of_ble_eq_true rfl) rfl (fun h S => ?_)
  refine WP_fieldAddr.2 ?_
  refine S.bld1 0 rfl rfl ?_
  refine WP_fieldAddr.2 ?_
  refine S.bld1 0 rfl rfl ?_
  refine WP_neq.2 ?_
  refine br_lf (fun hc => ?_) (fun hc => ?_)
  · have M := cond_T hc M
    refine WP_fieldAddr.2 ?_
    refine S.bld1 4 rfl rfl ?_
    refine S.bldN [(vi c_72), (vi c_78), (vi c_84)] 0 rfl rfl rfl (by decide) ?_
    refine S.bsl [[(vi c_72), (vi c_78), (vi c_84)]] (fillL_step (m := [(vi c_72), (vi c_78), (vi c_84)]) (l2 := [(vi c_72), (vi c_78), (vi c_84)]) rfl rfl (Nat.le_of_ble_eq_true rfl) rfl rfl) rfl (by decide) (sz_cons rfl sz_nil) (one_cons rfl (one_cons rfl (one_cons rfl rfl))) (fun v_91 h S => ?_)
    have A_92 : All2 (G_api_Guard.rep g) [[(vi c_72), (vi c_78), (vi c_84)]] [(G_api_Guard.mk c_72 c_78 c_84)] := (All2.push All2.nil (show G_api_Guard.rep g [(vi c_72), (vi c_78), (vi c_84)] (G_api_Guard.mk c_72 c_78 c_84) from rfl))
    have S := S.f7
    obtain ⟨hb_95, M⟩ := gu_some M
    refine S.app (S.rd 1 rfl) (by rw [v12_c6_A.1, A_92.1]; exact hb_95) (by decide) rfl (all_one G_api_Guard.one A_92) (all_one G_api_Guard.one v12_c6_A) (fun v_93 h S => ?_)
    have A_94 : All2 (G_api_Guard.rep g) (v12_c6_ls ++ [[(vi c_72), (vi c_78), (vi c_84)]]) (v12_c6 ++ [(G_api_Guard.mk c_72 c_78 c_84)]) := All2.append v12_c6_A A_92
    refine WP_fieldAddr.2 ?_
    have S := S.f6
    refine S.bst [v_93] [(.string v12_c0), (.string v12_c1), (vi v12_c2), (vi v12_c3), (vi v12_c4), v12_c5_v, v_93] (cellsOf_one (S.own1 1 rfl)) rfl (one_cons (S.own1 1 rfl) rfl) (Nat.le_of_ble_eq_true rfl) rfl (fun h S => ?_)
    have S := S.f8
    have S := S.f2
    have S := S.f8
    have S := S.f3
    have S := S.f8
    have S := S.f8
    have S := S.t6
    exact g_cosignerref08_Cut_J8_lf M S v1_F1 v1_F2 v7_A v12_c5_A A_94 k23_5_F1 k23_5_F2 k23_5_F3 sbk23 Hk23 H
  · have M := cond_F hc M
    have S := S.f7
    have S := S.f7
    have S := S.f7
    have S := S.f7
    have S := S.f7
    have S := S.f7
    have S := S.t6
    exact g_cosignerref08_Cut_J8_lf M S v1_F1 v1_F2 v7_A v12_c5_A v12_c6_A k23_5_F1 k23_5_F2 k23_5_F3 sbk23 Hk23 H
theorem g_cosignerref08_Cut_J5_lf {w0 : World} {c : Cx} {g h : AH} {E R : Value → W} {r : G_cosignerref08_Cutted} {N : Nat} {v12_c0 v12_c1 : ByteArray} {v12_c2 v12_c3 v12_c4 : Int} {v12_c5 : List G_api_Ins} {v12_c6 : List G_api_Guard} {v7 : List Int} {v5 : Int} {v2 : G_cosignerref08_Cutted} {v12_b : Nat} {v12_c5_v : Value} {v12_c5_ls : List (List Value)} {v12_c6_v : Value} {v12_c6_ls : List (List Value)} {v7_v : Value} {v7_ls : List (List Value)} {v2_b : Nat} {v2_w1 v2_w2 v2_w3 : Value}  (M : g_cosignerref08_Cut_J5_M N v12_c0 v12_c1 v12_c2 v12_c3 v12_c4 v12_c5 v12_c6 v7 v5 v2 = some r) (S : Sep c g h [.bx v12_b [(.string v12_c0), (.string v12_c1), (vi v12_c2), (vi v12_c3), (vi v12_c4), v12_c5_v, v12_c6_v], .sl 67 4 v12_c5_v v12_c5_ls, .sl 79 3 v12_c6_v v12_c6_ls, .sl 3 1 v7_v v7_ls, .bx v2_b [(.string v2.fU.fClass), (.string v2.fU.fName), (vi v2.fU.fArgs), (vi v2.fU.fSlots), (vi v2.fU.fFrame), v2_w1, v2_w2, v2_w3, (vi v2.fE)]]) (v12_c5_A : All2 (G_api_Ins.rep g) v12_c5_ls v12_c5) (v12_c6_A : All2 (G_api_Guard.rep g) v12_c6_ls v12_c6) (v7_A : All2 ((rI .i64) g) v7_ls v7) (v2_F1 : FzS G_api_Ins.rep 4 g v2_w1 v2.fU.fCode) (v2_F2 : FzS G_api_Guard.rep 3 g v2_w2 v2.fU.fGuards) (v2_F3 : FzS (rI .i64) 1 g v2_w3 v2.fAt)  (H : cosignerref08_Cut_H c R r) : g_cosignerref08_Cut_J5 w0 E R (mkP v12_b 0) v7_v (vi v5) (mkP v2_b 0) h := by
  unfold g_cosignerref08_Cut_J5
  unfold g_cosignerref08_Cut_J5_M at M
  refine S.bldN [(.string v12_c0), (.string v12_c1), (vi v12_c2), (vi v12_c3), (vi v12_c4), v12_c5_v, v12_c6_v] 0 rfl rfl rfl (by decide) ?_
  have S := S.f3
  obtain ⟨c_96, hx_97, M⟩ := bind_some M
  refine S.cutH v7_A hx_97 (fun v_98 ls_100 S A_99 => ?_)
  refine (WX_build (l := [(.string v12_c0), (.string v12_c1), (vi v12_c2), (vi v12_c3), (vi v12_c4), v12_c5_v, v12_c6_v, v_98, (vi 0)]) (fillL_step (m := [(.string v12_c0), (.string v12_c1), (vi v12_c2), (vi v12_c3), (vi v12_c4), v12_c5_v, v12_c6_v]) (l2 := [(.string v12_c0), (.string v12_c1), (vi v12_c2), (vi v12_c3), (vi v12_c4), v12_c5_v, v12_c6_v, nilS, (vi 0)]) rfl rfl (Nat.le_of_ble_eq_true rfl) rfl (fillL_step (m := [v_98]) (l2 := [(.string v12_c0), (.string v12_c1), (vi v12_c2), (vi v12_c3), (vi v12_c4), v12_c5_v, v12_c6_v, v_98, (vi 0)]) (cellsOf_one (S.own1 0 rfl)) rfl (Nat.le_of_ble_eq_true rfl) rfl rfl))).2 ?_
  have S := S.f4
  refine S.bst [(.string v12_c0), (.string v12_c1), (vi v12_c2), (vi v12_c3), (vi v12_c4), v12_c5_v, v12_c6_v, v_98, (vi 0)] [(.string v12_c0), (.string v12_c1), (vi v12_c2), (vi v12_c3), (vi v12_c4), v12_c5_v, v12_c6_v, v_98, (vi 0)] rfl rfl (one_cons rfl (one_cons rfl (one_cons rfl (one_cons rfl (one_cons rfl (one_cons (S.own1 3 rfl) (one_cons (S.own1 4 rfl) (one_cons (S.own1 1 rfl) (one_cons rfl rfl))))))))) (Nat.le_of_ble_eq_true rfl) rfl (fun h S => ?_)
  refine S.bldN [(.string v12_c0), (.string v12_c1), (vi v12_c2), (vi v12_c3), (vi v12_c4), v12_c5_v, v12_c6_v, v_98, (vi 0)] 0 rfl rfl rfl (by decide) ?_
  have S := S.f3
  obtain ⟨g, sg, S, F_101⟩ := S.fz v12_c5_A G_api_Ins.mono
  have A_99 := All2.mono A_99 (fun _ _ hh => (mono_I .i64) _ _ _ _ sg hh)
  have v12_c6_A := All2.mono v12_c6_A (fun _ _ hh => G_api_Guard.mono _ _ _ _ sg hh)
  have S := S.f3
  obtain ⟨g, sg, S, F_102⟩ := S.fz v12_c6_A G_api_Guard.mono
  have F_101 := F_101.mono G_api_Ins.mono sg
  have A_99 := All2.mono A_99 (fun _ _ hh => (mono_I .i64) _ _ _ _ sg hh)
  have S := S.f1
  obtain ⟨g, sg, S, F_103⟩ := S.fz A_99 (mono_I .i64)
  have F_101 := F_101.mono G_api_Ins.mono sg
  have F_102 := F_102.mono G_api_Guard.mono sg
  cases M
  exact H _ _ v12_c5_v v12_c6_v v_98 S.drops F_101 F_102 F_103
theorem g_cosignerref08_Cut_L6_lf {w0 : World} {c : Cx} {g h : AH} {E R : Value → W} {r : G_cosignerref08_Cutted} {N : Nat} {v1 : G_api_Unit} {v7 : List Int} {v12_c0 v12_c1 : ByteArray} {v12_c2 v12_c3 v12_c4 : Int} {v12_c5 : List G_api_Ins} {v12_c6 : List G_api_Guard} {v5 : Int} {v2 : G_cosignerref08_Cutted} {y24 : Int} {v1_b : Nat} {v1_w1 v1_w2 v7_v : Value} {v7_ls : List (List Value)} {v12_b : Nat} {v12_c5_v : Value} {v12_c5_ls : List (List Value)} {v12_c6_v : Value} {v12_c6_ls : List (List Value)} {v2_b : Nat} {v2_w1 v2_w2 v2_w3 : Value} {k23 : Value → W} {k23M : Int → (List Int) → ByteArray → ByteArray → Int → Int → Int → (List G_api_Ins) → (List G_api_Guard) → Option G_cosignerref08_Cutted} {gbk23 : AH} (M : g_cosignerref08_Cut_L6_M N v1 v7 v12_c0 v12_c1 v12_c2 v12_c3 v12_c4 v12_c5 v12_c6 v5 v2 y24 k23M = some r) (S : Sep c g h [.bx v1_b [(.string v1.fClass), (.string v1.fName), (vi v1.fArgs), (vi v1.fSlots), (vi v1.fFrame), v1_w1, v1_w2], .sl 3 1 v7_v v7_ls, .bx v12_b [(.string v12_c0), (.string v12_c1), (vi v12_c2), (vi v12_c3), (vi v12_c4), v12_c5_v, v12_c6_v], .sl 67 4 v12_c5_v v12_c5_ls, .sl 79 3 v12_c6_v v12_c6_ls, .bx v2_b [(.string v2.fU.fClass), (.string v2.fU.fName), (vi v2.fU.fArgs), (vi v2.fU.fSlots), (vi v2.fU.fFrame), v2_w1, v2_w2, v2_w3, (vi v2.fE)]]) (v1_F1 : FzS G_api_Ins.rep 4 g v1_w1 v1.fCode) (v1_F2 : FzS G_api_Guard.rep 3 g v1_w2 v1.fGuards) (v7_A : All2 ((rI .i64) g) v7_ls v7) (v12_c5_A : All2 (G_api_Ins.rep g) v12_c5_ls v12_c5) (v12_c6_A : All2 (G_api_Guard.rep g) v12_c6_ls v12_c6) (v2_F1 : FzS G_api_Ins.rep 4 g v2_w1 v2.fU.fCode) (v2_F2 : FzS G_api_Guard.rep 3 g v2_w2 v2.fU.fGuards) (v2_F3 : FzS (rI .i64) 1 g v2_w3 v2.fAt) (sbk23 : Sub gbk23 g) (Hk23 : ∀ {qy0 : Int} {qo1 : List Int} {qo1_ls : List (List Value)} {qo2_c0 qo2_c1 : ByteArray} {qo2_c2 qo2_c3 qo2_c4 : Int} {qo2_c5 : List G_api_Ins} {qo2_c5_v : Value} {qo2_c5_ls : List (List Value)} {qo2_c6 : List G_api_Guard} {qo2_c6_v : Value} {qo2_c6_ls : List (List Value)} {g2 h2 : AH}, k23M qy0 qo1 qo2_c0 qo2_c1 qo2_c2 qo2_c3 qo2_c4 qo2_c5 qo2_c6 = some r → Sub gbk23 g2 → Sep c g2 h2 [.bx v1_b [(.string v1.fClass), (.string v1.fName), (vi v1.fArgs), (vi v1.fSlots), (vi v1.fFrame), v1_w1, v1_w2], .sl 3 1 v7_v qo1_ls, .bx v12_b [(.string qo2_c0), (.string qo2_c1), (vi qo2_c2), (vi qo2_c3), (vi qo2_c4), qo2_c5_v, qo2_c6_v], .sl 67 4 qo2_c5_v qo2_c5_ls, .sl 79 3 qo2_c6_v qo2_c6_ls, .bx v2_b [(.string v2.fU.fClass), (.string v2.fU.fName), (vi v2.fU.fArgs), (vi v2.fU.fSlots), (vi v2.fU.fFrame), v2_w1, v2_w2, v2_w3, (vi v2.fE)]] → All2 ((rI .i64) g2) qo1_ls qo1 → All2 (G_api_Ins.rep g2) qo2_c5_ls qo2_c5 → All2 (G_api_Guard.rep g2) qo2_c6_ls qo2_c6 → k23 (vi qy0) h2) (H : cosignerref08_Cut_H c R r) : g_cosignerref08_Cut_L6 w0 E R (mkP v1_b 0) v7_v (mkP v12_b 0) (vi v5) (mkP v2_b 0) k23 (vi y24) h := by
  unfold g_cosignerref08_Cut_L6
  unfold g_cosignerref08_Cut_L6_M at M
  refine WP_fieldAddr.2 ?_
  refine S.bld1 0 rfl rfl ?_
  refine v1_F2.len ?_
  refine WP_lss.2 ?_
  refine br_lf (fun hc => ?_) (fun hc => ?_)
  · have M := cond_T hc M
    exact g_cosignerref08_Cut_J7_lf M S v1_F1 v1_F2 v7_A v12_c5_A v12_c6_A v2_F1 v2_F2 v2_F3 sbk23 Hk23 H
  · have M := cond_F hc M
    have S := S.f5
    have S := S.f2
    have S := S.f5
    have S := S.f5
    have S := S.f5
    have S := S.t5
    exact g_cosignerref08_Cut_J5_lf M S v12_c5_A v12_c6_A v7_A v2_F1 v2_F2 v2_F3 H
theorem g_cosignerref08_Cut_L6_li {w0 : World} {c : Cx} {E R : Value → W} {r : G_cosignerref08_Cutted} {N : Nat} {v1 : G_api_Unit} {v5 : Int} {v2 : G_cosignerref08_Cutted} {v1_b : Nat} {v1_w1 v1_w2 v7_v : Value} {v12_b v2_b : Nat} {v2_w1 v2_w2 v2_w3 : Value}   (H : cosignerref08_Cut_H c R r) : ∀ (n : Nat) {v7 : List Int} {v12_c0 v12_c1 : ByteArray} {v12_c2 v12_c3 v12_c4 : Int} {v12_c5 : List G_api_Ins} {v12_c6 : List G_api_Guard} {y24 : Int} {v7_ls : List (List Value)} {v12_c5_v : Value} {v12_c5_ls : List (List Value)} {v12_c6_v : Value} {v12_c6_ls : List (List Value)} {g h : AH}, g_cosignerref08_Cut_L6_I N v1 v5 v2 n v7 v12_c0 v12_c1 v12_c2 v12_c3 v12_c4 v12_c5 v12_c6 y24 = some r → Sep c g h [.bx v1_b [(.string v1.fClass), (.string v1.fName), (vi v1.fArgs), (vi v1.fSlots), (vi v1.fFrame), v1_w1, v1_w2], .sl 3 1 v7_v v7_ls, .bx v12_b [(.string v12_c0), (.string v12_c1), (vi v12_c2), (vi v12_c3), (vi v12_c4), v12_c5_v, v12_c6_v], .sl 67 4 v12_c5_v v12_c5_ls, .sl 79 3 v12_c6_v v12_c6_ls, .bx v2_b [(.string v2.fU.fClass), (.string v2.fU.fName), (vi v2.fU.fArgs), (vi v2.fU.fSlots), (vi v2.fU.fFrame), v2_w1, v2_w2, v2_w3, (vi v2.fE)]] → FzS G_api_Ins.rep 4 g v1_w1 v1.fCode → FzS G_api_Guard.rep 3 g v1_w2 v1.fGuards → All2 ((rI .i64) g) v7_ls v7 → All2 (G_api_Ins.rep g) v12_c5_ls v12_c5 → All2 (G_api_Guard.rep g) v12_c6_ls v12_c6 → FzS G_api_Ins.rep 4 g v2_w1 v2.fU.fCode → FzS G_api_Guard.rep 3 g v2_w2 v2.fU.fGuards → FzS (rI .i64) 1 g v2_w3 v2.fAt → LPn (α := Value) (fun k a => g_cosignerref08_Cut_L6 w0 E R (mkP v1_b 0) v7_v (mkP v12_b 0) (vi v5) (mkP v2_b 0) k a) n (vi y24) h := by
  intro n
  induction n with
  | zero =>
    intro v7 v12_c0 v12_c1 v12_c2 v12_c3 v12_c4 v12_c5 v12_c6 y24 v7_ls v12_c5_v v12_c5_ls v12_c6_v v12_c6_ls g h M S v1_F1 v1_F2 v7_A v12_c5_A v12_c6_A v2_F1 v2_F2 v2_F3
    unfold g_cosignerref08_Cut_L6_I at M; cases M
  | succ n ih =>
    intro v7 v12_c0 v12_c1 v12_c2 v12_c3 v12_c4 v12_c5 v12_c6 y24 v7_ls v12_c5_v v12_c5_ls v12_c6_v v12_c6_ls g h M S v1_F1 v1_F2 v7_A v12_c5_A v12_c6_A v2_F1 v2_F2 v2_F3
    exact g_cosignerref08_Cut_L6_lf M S v1_F1 v1_F2 v7_A v12_c5_A v12_c6_A v2_F1 v2_F2 v2_F3  (Sub.refl g) (fun M2 sub S2 qo1_A qo2_c5_A qo2_c6_A => ih M2 S2 (FzS.mono v1_F1 G_api_Ins.mono sub) (FzS.mono v1_F2 G_api_Guard.mono sub) qo1_A qo2_c5_A qo2_c6_A (FzS.mono v2_F1 G_api_Ins.mono sub) (FzS.mono v2_F2 G_api_Guard.mono sub) (FzS.mono v2_F3 (mono_I .i64) sub) ) H
theorem g_cosignerref08_Cut_J4_lf {w0 : World} {c : Cx} {g h : AH} {E R : Value → W} {r : G_cosignerref08_Cutted} {N : Nat} {v1 : G_api_Unit} {v7 : List Int} {v12_c0 v12_c1 : ByteArray} {v12_c2 v12_c3 v12_c4 : Int} {v12_c5 : List G_api_Ins} {v12_c6 : List G_api_Guard} {v5 : Int} {v2 : G_cosignerref08_Cutted} {v1_b : Nat} {v1_w1 v1_w2 v7_v : Value} {v7_ls : List (List Value)} {v12_b : Nat} {v12_c5_v : Value} {v12_c5_ls : List (List Value)} {v12_c6_v : Value} {v12_c6_ls : List (List Value)} {v2_b : Nat} {v2_w1 v2_w2 v2_w3 : Value}  (M : g_cosignerref08_Cut_J4_M N v1 v7 v12_c0 v12_c1 v12_c2 v12_c3 v12_c4 v12_c5 v12_c6 v5 v2 = some r) (S : Sep c g h [.bx v1_b [(.string v1.fClass), (.string v1.fName), (vi v1.fArgs), (vi v1.fSlots), (vi v1.fFrame), v1_w1, v1_w2], .sl 3 1 v7_v v7_ls, .bx v12_b [(.string v12_c0), (.string v12_c1), (vi v12_c2), (vi v12_c3), (vi v12_c4), v12_c5_v, v12_c6_v], .sl 67 4 v12_c5_v v12_c5_ls, .sl 79 3 v12_c6_v v12_c6_ls, .bx v2_b [(.string v2.fU.fClass), (.string v2.fU.fName), (vi v2.fU.fArgs), (vi v2.fU.fSlots), (vi v2.fU.fFrame), v2_w1, v2_w2, v2_w3, (vi v2.fE)]]) (v1_F1 : FzS G_api_Ins.rep 4 g v1_w1 v1.fCode) (v1_F2 : FzS G_api_Guard.rep 3 g v1_w2 v1.fGuards) (v7_A : All2 ((rI .i64) g) v7_ls v7) (v12_c5_A : All2 (G_api_Ins.rep g) v12_c5_ls v12_c5) (v12_c6_A : All2 (G_api_Guard.rep g) v12_c6_ls v12_c6) (v2_F1 : FzS G_api_Ins.rep 4 g v2_w1 v2.fU.fCode) (v2_F2 : FzS G_api_Guard.rep 3 g v2_w2 v2.fU.fGuards) (v2_F3 : FzS (rI .i64) 1 g v2_w3 v2.fAt)  (H : cosignerref08_Cut_H c R r) : g_cosignerref08_Cut_J4 w0 E R (mkP v1_b 0) v7_v (mkP v12_b 0) (vi v5) (mkP v2_b 0) h := by
  unfold g_cosignerref08_Cut_J4
  unfold g_cosignerref08_Cut_J4_M at M
  exact ⟨N, g_cosignerref08_Cut_L6_li  H _ M S v1_F1 v1_F2 v7_A v12_c5_A v12_c6_A v2_F1 v2_F2 v2_F3 ⟩
theorem g_cosignerref08_Cut_L9_lf {w0 : World} {c : Cx} {g h : AH} {E R : Value → W} {r : G_cosignerref08_Cutted} {N : Nat} {v5 : Int} {x1 : List Bool} {v1 : G_api_Unit} {v7 : List Int} {v12_c0 v12_c1 : ByteArray} {v12_c2 v12_c3 v12_c4 : Int} {v12_c5 : List G_api_Ins} {v12_c6 : List G_api_Guard} {v2 : G_cosignerref08_Cutted} {y64 : Int} {x1_v : Value} {v1_b : Nat} {v1_w1 v1_w2 v7_v : Value} {v7_ls : List (List Value)} {v12_b : Nat} {v12_c5_v : Value} {v12_c5_ls : List (List Value)} {v12_c6_v : Value} {v12_c6_ls : List (List Value)} {v2_b : Nat} {v2_w1 v2_w2 v2_w3 : Value} {k63 : Value → W} {k63M : Int → (List Int) → ByteArray → ByteArray → Int → Int → Int → (List G_api_Ins) → (List G_api_Guard) → Option G_cosignerref08_Cutted} {gbk63 : AH} (M : g_cosignerref08_Cut_L9_M N v5 x1 v1 v7 v12_c0 v12_c1 v12_c2 v12_c3 v12_c4 v12_c5 v12_c6 v2 y64 k63M = some r) (S : Sep c g h [.bx v1_b [(.string v1.fClass), (.string v1.fName), (vi v1.fArgs), (vi v1.fSlots), (vi v1.fFrame), v1_w1, v1_w2], .sl 3 1 v7_v v7_ls, .bx v12_b [(.string v12_c0), (.string v12_c1), (vi v12_c2), (vi v12_c3), (vi v12_c4), v12_c5_v, v12_c6_v], .sl 67 4 v12_c5_v v12_c5_ls, .sl 79 3 v12_c6_v v12_c6_ls, .bx v2_b [(.string v2.fU.fClass), (.string v2.fU.fName), (vi v2.fU.fArgs), (vi v2.fU.fSlots), (vi v2.fU.fFrame), v2_w1, v2_w2, v2_w3, (vi v2.fE)]]) (x1_F : FzS rB 1 g x1_v x1) (v1_F1 : FzS G_api_Ins.rep 4 g v1_w1 v1.fCode) (v1_F2 : FzS G_api_Guard.rep 3 g v1_w2 v1.fGuards) (v7_A : All2 ((rI .i64) g) v7_ls v7) (v12_c5_A : All2 (G_api_Ins.rep g) v12_c5_ls v12_c5) (v12_c6_A : All2 (G_api_Guard.rep g) v12_c6_ls v12_c6) (v2_F1 : FzS G_api_Ins.rep 4 g v2_w1 v2.fU.fCode) (v2_F2 : FzS G_api_Guard.rep 3 g v2_w2 v2.fU.fGuards) (v2_F3 : FzS (rI .i64) 1 g v2_w3 v2.fAt) (sbk63 : Sub gbk63 g) (Hk63 : ∀ {qy0 : Int} {qo1 : List Int} {qo1_ls : List (List Value)} {qo2_c0 qo2_c1 : ByteArray} {qo2_c2 qo2_c3 qo2_c4 : Int} {qo2_c5 : List G_api_Ins} {qo2_c5_v : Value} {qo2_c5_ls : List (List Value)} {qo2_c6 : List G_api_Guard} {qo2_c6_v : Value} {qo2_c6_ls : List (List Value)} {g2 h2 : AH}, k63M qy0 qo1 qo2_c0 qo2_c1 qo2_c2 qo2_c3 qo2_c4 qo2_c5 qo2_c6 = some r → Sub gbk63 g2 → Sep c g2 h2 [.bx v1_b [(.string v1.fClass), (.string v1.fName), (vi v1.fArgs), (vi v1.fSlots), (vi v1.fFrame), v1_w1, v1_w2], .sl 3 1 v7_v qo1_ls, .bx v12_b [(.string qo2_c0), (.string qo2_c1), (vi qo2_c2), (vi qo2_c3), (vi qo2_c4), qo2_c5_v, qo2_c6_v], .sl 67 4 qo2_c5_v qo2_c5_ls, .sl 79 3 qo2_c6_v qo2_c6_ls, .bx v2_b [(.string v2.fU.fClass), (.string v2.fU.fName), (vi v2.fU.fArgs), (vi v2.fU.fSlots), (vi v2.fU.fFrame), v2_w1, v2_w2, v2_w3, (vi v2.fE)]] → All2 ((rI .i64) g2) qo1_ls qo1 → All2 (G_api_Ins.rep g2) qo2_c5_ls qo2_c5 → All2 (G_api_Guard.rep g2) qo2_c6_ls qo2_c6 → k63 (vi qy0) h2) (H : cosignerref08_Cut_H c R r) : g_cosignerref08_Cut_L9 w0 E R (vi v5) x1_v (mkP v1_b 0) v7_v (mkP v12_b 0) (mkP v2_b 0) k63 (vi y64) h := by
  unfold g_cosignerref08_Cut_L9
  unfold g_cosignerref08_Cut_L9_M at M
  refine WP_lss.2 ?_
  refine br_lf (fun hc => ?_) (fun hc => ?_)
  · have M := cond_T hc M
    exact g_cosignerref08_Cut_J10_lf M S x1_F v1_F1 v1_F2 v7_A v12_c5_A v12_c6_A v2_F1 v2_F2 v2_F3 sbk63 Hk63 H
  · have M := cond_F hc M
    exact g_cosignerref08_Cut_J4_lf M S v1_F1 v1_F2 v7_A v12_c5_A v12_c6_A v2_F1 v2_F2 v2_F3 H
theorem g_cosignerref08_Cut_L9_li {w0 : World} {c : Cx} {E R : Value → W} {r : G_cosignerref08_Cutted} {N : Nat} {v5 : Int} {x1 : List Bool} {v1 : G_api_Unit} {v2 : G_cosignerref08_Cutted} {x1_v : Value} {v1_b : Nat} {v1_w1 v1_w2 v7_v : Value} {v12_b v2_b : Nat} {v2_w1 v2_w2 v2_w3 : Value}   (H : cosignerref08_Cut_H c R r) : ∀ (n : Nat) {v7 : List Int} {v12_c0 v12_c1 : ByteArray} {v12_c2 v12_c3 v12_c4 : Int} {v12_c5 : List G_api_Ins} {v12_c6 : List G_api_Guard} {y64 : Int} {v7_ls : List (List Value)} {v12_c5_v : Value} {v12_c5_ls : List (List Value)} {v12_c6_v : Value} {v12_c6_ls : List (List Value)} {g h : AH}, g_cosignerref08_Cut_L9_I N v5 x1 v1 v2 n v7 v12_c0 v12_c1 v12_c2 v12_c3 v12_c4 v12_c5 v12_c6 y64 = some r → Sep c g h [.bx v1_b [(.string v1.fClass), (.string v1.fName), (vi v1.fArgs), (vi v1.fSlots), (vi v1.fFrame), v1_w1, v1_w2], .sl 3 1 v7_v v7_ls, .bx v12_b [(.string v12_c0), (.string v12_c1), (vi v12_c2), (vi v12_c3), (vi v12_c4), v12_c5_v, v12_c6_v], .sl 67 4 v12_c5_v v12_c5_ls, .sl 79 3 v12_c6_v v12_c6_ls, .bx v2_b [(.string v2.fU.fClass), (.string v2.fU.fName), (vi v2.fU.fArgs), (vi v2.fU.fSlots), (vi v2.fU.fFrame), v2_w1, v2_w2, v2_w3, (vi v2.fE)]] → FzS rB 1 g x1_v x1 → FzS G_api_Ins.rep 4 g v1_w1 v1.fCode → FzS G_api_Guard.rep 3 g v1_w2 v1.fGuards → All2 ((rI .i64) g) v7_ls v7 → All2 (G_api_Ins.rep g) v12_c5_ls v12_c5 → All2 (G_api_Guard.rep g) v12_c6_ls v12_c6 → FzS G_api_Ins.rep 4 g v2_w1 v2.fU.fCode → FzS G_api_Guard.rep 3 g v2_w2 v2.fU.fGuards → FzS (rI .i64) 1 g v2_w3 v2.fAt → LPn (α := Value) (fun k a => g_cosignerref08_Cut_L9 w0 E R (vi v5) x1_v (mkP v1_b 0) v7_v (mkP v12_b 0) (mkP v2_b 0) k a) n (vi y64) h := by
  intro n
  induction n with
  | zero =>
    intro v7 v12_c0 v12_c1 v12_c2 v12_c3 v12_c4 v12_c5 v12_c6 y64 v7_ls v12_c5_v v12_c5_ls v12_c6_v v12_c6_ls g h M S x1_F v1_F1 v1_F2 v7_A v12_c5_A v12_c6_A v2_F1 v2_F2 v2_F3
    unfold g_cosignerref08_Cut_L9_I at M; cases M
  | succ n ih =>
    intro v7 v12_c0 v12_c1 v12_c2 v12_c3 v12_c4 v12_c5 v12_c6 y64 v7_ls v12_c5_v v12_c5_ls v12_c6_v v12_c6_ls g h M S x1_F v1_F1 v1_F2 v7_A v12_c5_A v12_c6_A v2_F1 v2_F2 v2_F3
    exact g_cosignerref08_Cut_L9_lf M S x1_F v1_F1 v1_F2 v7_A v12_c5_A v12_c6_A v2_F1 v2_F2 v2_F3  (Sub.refl g) (fun M2 sub S2 qo1_A qo2_c5_A qo2_c6_A => ih M2 S2 (FzS.mono x1_F mono_B sub) (FzS.mono v1_F1 G_api_Ins.mono sub) (FzS.mono v1_F2 G_api_Guard.mono sub) qo1_A qo2_c5_A qo2_c6_A (FzS.mono v2_F1 G_api_Ins.mono sub) (FzS.mono v2_F2 G_api_Guard.mono sub) (FzS.mono v2_F3 (mono_I .i64) sub) ) H
theorem g_cosignerref08_Cut_J3_lf {w0 : World} {c : Cx} {g h : AH} {E R : Value → W} {r : G_cosignerref08_Cutted} {N : Nat} {v7 : List Int} {v5 : Int} {v1 : G_api_Unit} {x1 : List Bool} {v2 : G_cosignerref08_Cutted} {y8 : Int} {v7_v : Value} {v7_ls : List (List Value)} {v1_b : Nat} {v1_w1 v1_w2 x1_v : Value} {v2_b : Nat} {v2_w1 v2_w2 v2_w3 : Value}  (M : g_cosignerref08_Cut_J3_M N v7 v5 v1 x1 v2 y8 = some r) (S : Sep c g h [.sl 3 1 v7_v v7_ls, .bx v1_b [(.string v1.fClass), (.string v1.fName), (vi v1.fArgs), (vi v1.fSlots), (vi v1.fFrame), v1_w1, v1_w2], .bx v2_b [(.string v2.fU.fClass), (.string v2.fU.fName), (vi v2.fU.fArgs), (vi v2.fU.fSlots), (vi v2.fU.fFrame), v2_w1, v2_w2, v2_w3, (vi v2.fE)]]) (v7_A : All2 ((rI .i64) g) v7_ls v7) (v1_F1 : FzS G_api_Ins.rep 4 g v1_w1 v1.fCode) (v1_F2 : FzS G_api_Guard.rep 3 g v1_w2 v1.fGuards) (x1_F : FzS rB 1 g x1_v x1) (v2_F1 : FzS G_api_Ins.rep 4 g v2_w1 v2.fU.fCode) (v2_F2 : FzS G_api_Guard.rep 3 g v2_w2 v2.fU.fGuards) (v2_F3 : FzS (rI .i64) 1 g v2_w3 v2.fAt)  (H : cosignerref08_Cut_H c R r) : g_cosignerref08_Cut_J3 w0 E R v7_v (vi v5) (mkP v1_b 0) x1_v (mkP v2_b 0) (vi y8) h := by
  unfold g_cosignerref08_Cut_J3
  unfold g_cosignerref08_Cut_J3_M at M
  obtain ⟨c_27, hx_28, M⟩ := bind_some M
  refine S.oidx 0 rfl v7_A hx_28 (fun b_29 o_30 vs E_31 hc_32 rp => ?_)
  cases rp
  refine S.ost (j := 0) [(vi y8)] E_31 hc_32 rfl rfl (one_cons rfl rfl) (by decide) (fun h S => ?_)
  have A_33 : All2 ((rI .i64) g) (v7_ls.set v5.toNat [(vi y8)]) (v7.set v5.toNat y8) := All2.set v7_A (show (rI .i64) g [(vi y8)] y8 from rfl) v5.toNat
  have S : Sep _ g h [.sl 3 1 v7_v (v7_ls.set v5.toNat [(vi y8)]), .bx v1_b [(.string v1.fClass), (.string v1.fName), (vi v1.fArgs), (vi v1.fSlots), (vi v1.fFrame), v1_w1, v1_w2], .bx v2_b [(.string v2.fU.fClass), (.string v2.fU.fName), (vi v2.fU.fArgs), (vi v2.fU.fSlots), (vi v2.fU.fFrame), v2_w1, v2_w2, v2_w3, (vi v2.fE)]] := S
  refine S.bldN [(.string v1.fClass), (.string v1.fName), (vi v1.fArgs), (vi v1.fSlots), (vi v1.fFrame), v1_w1, v1_w2] 1 rfl rfl rfl (by decide) ?_
  refine S.alloc (l := [(.string (⟨⟨[]⟩⟩ : ByteArray)), (.string (⟨⟨[]⟩⟩ : ByteArray)), (vi 0), (vi 0), (vi 0), nilS, nilS]) (one_cons rfl (one_cons rfl (one_cons rfl (one_cons rfl (one_cons rfl (one_cons rfl (one_cons rfl rfl))))))) (fun b_34 h S => ?_)
  refine S.bst [(.string v1.fClass), (.string v1.fName), (vi v1.fArgs), (vi v1.fSlots), (vi v1.fFrame), v1_w1, v1_w2] [(.string v1.fClass), (.string v1.fName), (vi v1.fArgs), (vi v1.fSlots), (vi v1.fFrame), v1_w1, v1_w2] rfl rfl (one_cons rfl (one_cons rfl (one_cons rfl (one_cons rfl (one_cons rfl (one_cons v1_F1.one (one_cons v1_F2.one rfl))))))) (Nat.le_of_ble_eq_true rfl) rfl (fun h S => ?_)
  refine WP_fieldAddr.2 ?_
  refine S.bst [nilS] [(.string v1.fClass), (.string v1.fName), (vi v1.fArgs), (vi v1.fSlots), (vi v1.fFrame), nilS, v1_w2] (cellsOf_one rfl) rfl (one_cons rfl rfl) (Nat.le_of_ble_eq_true rfl) rfl (fun h S => ?_)
  refine WP_fieldAddr.2 ?_
  refine S.bst [nilS] [(.string v1.fClass), (.string v1.fName), (vi v1.fArgs), (vi v1.fSlots), (vi v1.fFrame), nilS, nilS] (cellsOf_one rfl) rfl (one_cons rfl rfl) (Nat.le_of_ble_eq_true rfl) rfl (fun h S => ?_)
  have S := S.nilsl 67 4
  have S := S.nilsl 79 3
  have S := S.f5
  have S := S.f1
  have S := S.f2
  have S := S.f3
  have S := S.f4
  have S := S.f5
  exact ⟨N, g_cosignerref08_Cut_L9_li  H _ M S x1_F v1_F1 v1_F2 A_33 (All2.nil (R := G_api_Ins.rep g)) (All2.nil (R := G_api_Guard.rep g)) v2_F1 v2_F2 v2_F3 ⟩
theorem g_cosignerref08_Cut_L15_lf {w0 : World} {c : Cx} {g h : AH} {E R : Value → W} {r : G_cosignerref08_Cutted} {N : Nat} {v5 : Int} {v7 : List Int} {x1 : List Bool} {v1 : G_api_Unit} {v2 : G_cosignerref08_Cutted} {y106 y107 : Int} {v7_v : Value} {v7_ls : List (List Value)} {x1_v : Value} {v1_b : Nat} {v1_w1 v1_w2 : Value} {v2_b : Nat} {v2_w1 v2_w2 v2_w3 : Value} {k105 : Value → Value → W} {k105M : Int → Int → (List Int) → Option G_cosignerref08_Cutted} {gbk105 : AH} (M : g_cosignerref08_Cut_L15_M N v5 v7 x1 v1 v2 y106 y107 k105M = some r) (S : Sep c g h [.sl 3 1 v7_v v7_ls, .bx v1_b [(.string v1.fClass), (.string v1.fName), (vi v1.fArgs), (vi v1.fSlots), (vi v1.fFrame), v1_w1, v1_w2], .bx v2_b [(.string v2.fU.fClass), (.string v2.fU.fName), (vi v2.fU.fArgs), (vi v2.fU.fSlots), (vi v2.fU.fFrame), v2_w1, v2_w2, v2_w3, (vi v2.fE)]]) (v7_A : All2 ((rI .i64) g) v7_ls v7) (x1_F : FzS rB 1 g x1_v x1) (v1_F1 : FzS G_api_Ins.rep 4 g v1_w1 v1.fCode) (v1_F2 : FzS G_api_Guard.rep 3 g v1_w2 v1.fGuards) (v2_F1 : FzS G_api_Ins.rep 4 g v2_w1 v2.fU.fCode) (v2_F2 : FzS G_api_Guard.rep 3 g v2_w2 v2.fU.fGuards) (v2_F3 : FzS (rI .i64) 1 g v2_w3 v2.fAt) (sbk105 : Sub gbk105 g) (Hk105 : ∀ {qy0 qy1 : Int} {qo0 : List Int} {qo0_ls : List (List Value)} {g2 h2 : AH}, k105M qy0 qy1 qo0 = some r → Sub gbk105 g2 → Sep c g2 h2 [.sl 3 1 v7_v qo0_ls, .bx v1_b [(.string v1.fClass), (.string v1.fName), (vi v1.fArgs), (vi v1.fSlots), (vi v1.fFrame), v1_w1, v1_w2], .bx v2_b [(.string v2.fU.fClass), (.string v2.fU.fName), (vi v2.fU.fArgs), (vi v2.fU.fSlots), (vi v2.fU.fFrame), v2_w1, v2_w2, v2_w3, (vi v2.fE)]] → All2 ((rI .i64) g2) qo0_ls qo0 → k105 (vi qy0) (vi qy1) h2) (H : cosignerref08_Cut_H c R r) : g_cosignerref08_Cut_L15 w0 E R (vi v5) v7_v x1_v (mkP v1_b 0) (mkP v2_b 0) k105 (vi y106) (vi y107) h := by
  unfold g_cosignerref08_Cut_L15
  unfold g_cosignerref08_Cut_L15_M at M
  refine WP_lss.2 ?_
  refine br_lf (fun hc => ?_) (fun hc => ?_)
  · have M := cond_T hc M
    exact g_cosignerref08_Cut_J16_lf M S v7_A x1_F v1_F1 v1_F2 v2_F1 v2_F2 v2_F3 sbk105 Hk105 H
  · have M := cond_F hc M
    exact g_cosignerref08_Cut_J3_lf M S v7_A v1_F1 v1_F2 x1_F v2_F1 v2_F2 v2_F3 H
theorem g_cosignerref08_Cut_L15_li {w0 : World} {c : Cx} {E R : Value → W} {r : G_cosignerref08_Cutted} {N : Nat} {v5 : Int} {x1 : List Bool} {v1 : G_api_Unit} {v2 : G_cosignerref08_Cutted} {v7_v x1_v : Value} {v1_b : Nat} {v1_w1 v1_w2 : Value} {v2_b : Nat} {v2_w1 v2_w2 v2_w3 : Value}   (H : cosignerref08_Cut_H c R r) : ∀ (n : Nat) {v7 : List Int} {y106 y107 : Int} {v7_ls : List (List Value)} {g h : AH}, g_cosignerref08_Cut_L15_I N v5 x1 v1 v2 n v7 y106 y107 = some r → Sep c g h [.sl 3 1 v7_v v7_ls, .bx v1_b [(.string v1.fClass), (.string v1.fName), (vi v1.fArgs), (vi v1.fSlots), (vi v1.fFrame), v1_w1, v1_w2], .bx v2_b [(.string v2.fU.fClass), (.string v2.fU.fName), (vi v2.fU.fArgs), (vi v2.fU.fSlots), (vi v2.fU.fFrame), v2_w1, v2_w2, v2_w3, (vi v2.fE)]] → All2 ((rI .i64) g) v7_ls v7 → FzS rB 1 g x1_v x1 → FzS G_api_Ins.rep 4 g v1_w1 v1.fCode → FzS G_api_Guard.rep 3 g v1_w2 v1.fGuards → FzS G_api_Ins.rep 4 g v2_w1 v2.fU.fCode → FzS G_api_Guard.rep 3 g v2_w2 v2.fU.fGuards → FzS (rI .i64) 1 g v2_w3 v2.fAt → LPn (α := Value × Value) (fun k a => g_cosignerref08_Cut_L15 w0 E R (vi v5) v7_v x1_v (mkP v1_b 0) (mkP v2_b 0) (fun b0 b1 => k (b0, b1)) a.1 a.2) n ((vi y106), (vi y107)) h := by
  intro n
  induction n with
  | zero =>
    intro v7 y106 y107 v7_ls g h M S v7_A x1_F v1_F1 v1_F2 v2_F1 v2_F2 v2_F3
    unfold g_cosignerref08_Cut_L15_I at M; cases M
  | succ n ih =>
    intro v7 y106 y107 v7_ls g h M S v7_A x1_F v1_F1 v1_F2 v2_F1 v2_F2 v2_F3
    exact g_cosignerref08_Cut_L15_lf M S v7_A x1_F v1_F1 v1_F2 v2_F1 v2_F2 v2_F3  (Sub.refl g) (fun M2 sub S2 qo0_A => ih M2 S2 qo0_A (FzS.mono x1_F mono_B sub) (FzS.mono v1_F1 G_api_Ins.mono sub) (FzS.mono v1_F2 G_api_Guard.mono sub) (FzS.mono v2_F1 G_api_Ins.mono sub) (FzS.mono v2_F2 G_api_Guard.mono sub) (FzS.mono v2_F3 (mono_I .i64) sub) ) H
theorem g_cosignerref08_Cut_J2_lf {w0 : World} {c : Cx} {g h : AH} {E R : Value → W} {r : G_cosignerref08_Cutted} {N : Nat} {v5 : Int} {x1 : List Bool} {v1 : G_api_Unit} {v2 : G_cosignerref08_Cutted} {x1_v : Value} {v1_b : Nat} {v1_w1 v1_w2 : Value} {v2_b : Nat} {v2_w1 v2_w2 v2_w3 : Value}  (M : g_cosignerref08_Cut_J2_M N v5 x1 v1 v2 = some r) (S : Sep c g h [.bx v1_b [(.string v1.fClass), (.string v1.fName), (vi v1.fArgs), (vi v1.fSlots), (vi v1.fFrame), v1_w1, v1_w2], .bx v2_b [(.string v2.fU.fClass), (.string v2.fU.fName), (vi v2.fU.fArgs), (vi v2.fU.fSlots), (vi v2.fU.fFrame), v2_w1, v2_w2, v2_w3, (vi v2.fE)]]) (x1_F : FzS rB 1 g x1_v x1) (v1_F1 : FzS G_api_Ins.rep 4 g v1_w1 v1.fCode) (v1_F2 : FzS G_api_Guard.rep 3 g v1_w2 v1.fGuards) (v2_F1 : FzS G_api_Ins.rep 4 g v2_w1 v2.fU.fCode) (v2_F2 : FzS G_api_Guard.rep 3 g v2_w2 v2.fU.fGuards) (v2_F3 : FzS (rI .i64) 1 g v2_w3 v2.fAt)  (H : cosignerref08_Cut_H c R r) : g_cosignerref08_Cut_J2 w0 E R (vi v5) x1_v (mkP v1_b 0) (mkP v2_b 0) h := by
  unfold g_cosignerref08_Cut_J2
  unfold g_cosignerref08_Cut_J2_M at M
  refine WP_add.2 ?_
  obtain ⟨hm_13, M⟩ := gu_some M
  refine S.mks hm_13 rfl (one_cons rfl rfl) (fun v_11 h S => ?_)
  have A_12 : All2 ((rI .i64) g) (List.replicate (wrapQ .i64 (v5 + 1)).toNat [(vi 0)]) (List.replicate (wrapQ .i64 (v5 + 1)).toNat 0) := All2.repl (show (rI .i64) g [(vi 0)] 0 from rfl) _
  exact ⟨N, g_cosignerref08_Cut_L15_li  H _ M S A_12 x1_F v1_F1 v1_F2 v2_F1 v2_F2 v2_F3 ⟩
theorem g_cosignerref08_Cut_J1_lf {w0 : World} {c : Cx} {g h : AH} {E R : Value → W} {r : G_cosignerref08_Cutted} {N : Nat} {v5 : Int} {x1 : List Bool} {v2 : G_cosignerref08_Cutted} {v1 : G_api_Unit} {x1_v : Value} {v2_b : Nat} {v2_w1 v2_w2 v2_w3 : Value} {v1_b : Nat} {v1_w1 v1_w2 : Value}  (M : g_cosignerref08_Cut_J1_M N v5 x1 v2 v1 = some r) (S : Sep c g h [.bx v2_b [(.string v2.fU.fClass), (.string v2.fU.fName), (vi v2.fU.fArgs), (vi v2.fU.fSlots), (vi v2.fU.fFrame), v2_w1, v2_w2, v2_w3, (vi v2.fE)], .bx v1_b [(.string v1.fClass), (.string v1.fName), (vi v1.fArgs), (vi v1.fSlots), (vi v1.fFrame), v1_w1, v1_w2]]) (x1_F : FzS rB 1 g x1_v x1) (v2_F1 : FzS G_api_Ins.rep 4 g v2_w1 v2.fU.fCode) (v2_F2 : FzS G_api_Guard.rep 3 g v2_w2 v2.fU.fGuards) (v2_F3 : FzS (rI .i64) 1 g v2_w3 v2.fAt) (v1_F1 : FzS G_api_Ins.rep 4 g v1_w1 v1.fCode) (v1_F2 : FzS G_api_Guard.rep 3 g v1_w2 v1.fGuards)  (H : cosignerref08_Cut_H c R r) : g_cosignerref08_Cut_J1 w0 E R (vi v5) x1_v (mkP v2_b 0) (mkP v1_b 0) h := by
  unfold g_cosignerref08_Cut_J1
  unfold g_cosignerref08_Cut_J1_M at M
  refine WP_sub.2 ?_
  obtain ⟨c_5, hx_6, M⟩ := bind_some M
  refine FzS.idx x1_F hx_6 (fun b_7 o_8 vs E_10 r_9 rp => ?_)
  cases rp
  refine S.fld1 (r_9 0 _ rfl) ?_
  refine WP_notB.2 ?_
  refine br_lf (fun hc => ?_) (fun hc => ?_)
  · have M := cond_T hc M
    refine (WX_build (l := [(.string (⟨⟨[]⟩⟩ : ByteArray)), (.string (⟨⟨[]⟩⟩ : ByteArray)), (vi 0), (vi 0), (vi 0), nilS, nilS, nilS, (vi 2)]) (fillL_step (m := [(vi 2)]) (l2 := [(.string (⟨⟨[]⟩⟩ : ByteArray)), (.string (⟨⟨[]⟩⟩ : ByteArray)), (vi 0), (vi 0), (vi 0), nilS, nilS, nilS, (vi 2)]) rfl rfl (Nat.le_of_ble_eq_true rfl) rfl rfl)).2 ?_
    refine S.bst [(.string (⟨⟨[]⟩⟩ : ByteArray)), (.string (⟨⟨[]⟩⟩ : ByteArray)), (vi 0), (vi 0), (vi 0), nilS, nilS, nilS, (vi 2)] [(.string (⟨⟨[]⟩⟩ : ByteArray)), (.string (⟨⟨[]⟩⟩ : ByteArray)), (vi 0), (vi 0), (vi 0), nilS, nilS, nilS, (vi 2)] rfl rfl (one_cons rfl (one_cons rfl (one_cons rfl (one_cons rfl (one_cons rfl (one_cons rfl (one_cons rfl (one_cons rfl (one_cons rfl rfl))))))))) (Nat.le_of_ble_eq_true rfl) rfl (fun h S => ?_)
    refine S.bldN [(.string (⟨⟨[]⟩⟩ : ByteArray)), (.string (⟨⟨[]⟩⟩ : ByteArray)), (vi 0), (vi 0), (vi 0), nilS, nilS, nilS, (vi 2)] 0 rfl rfl rfl (by decide) ?_
    cases M
    exact H _ _ nilS nilS nilS S.drops FzS.nil FzS.nil FzS.nil
  · have M := cond_F hc M
    have S := S.f1
    exact g_cosignerref08_Cut_J2_lf M S x1_F v1_F1 v1_F2 v2_F1 v2_F2 v2_F3 H
theorem g_cosignerref08_Cut_P2_lf {w0 : World} {c : Cx} {g h : AH} {E R : Value → W} {r : G_cosignerref08_Cutted} {N : Nat} {v2 : G_cosignerref08_Cutted} {v5 : Int} {x1 : List Bool} {v1 : G_api_Unit} {v130 : Bool} {v2_b : Nat} {v2_w1 v2_w2 v2_w3 x1_v : Value} {v1_b : Nat} {v1_w1 v1_w2 : Value}  (M : g_cosignerref08_Cut_P2_M N v2 v5 x1 v1 v130 = some r) (S : Sep c g h [.bx v2_b [(.string v2.fU.fClass), (.string v2.fU.fName), (vi v2.fU.fArgs), (vi v2.fU.fSlots), (vi v2.fU.fFrame), v2_w1, v2_w2, v2_w3, (vi v2.fE)], .bx v1_b [(.string v1.fClass), (.string v1.fName), (vi v1.fArgs), (vi v1.fSlots), (vi v1.fFrame), v1_w1, v1_w2]]) (v2_F1 : FzS G_api_Ins.rep 4 g v2_w1 v2.fU.fCode) (v2_F2 : FzS G_api_Guard.rep 3 g v2_w2 v2.fU.fGuards) (v2_F3 : FzS (rI .i64) 1 g v2_w3 v2.fAt) (x1_F : FzS rB 1 g x1_v x1) (v1_F1 : FzS G_api_Ins.rep 4 g v1_w1 v1.fCode) (v1_F2 : FzS G_api_Guard.rep 3 g v1_w2 v1.fGuards)  (H : cosignerref08_Cut_H c R r) : g_cosignerref08_Cut_P2 w0 E R (mkP v2_b 0) (vi v5) x1_v (mkP v1_b 0) (.bool v130) h := by
  unfold g_cosignerref08_Cut_P2
  unfold g_cosignerref08_Cut_P2_M at M
  refine br_lf (fun hc => ?_) (fun hc => ?_)
  · have M := cond_T hc M
    refine (WX_build (l := [(.string (⟨⟨[]⟩⟩ : ByteArray)), (.string (⟨⟨[]⟩⟩ : ByteArray)), (vi 0), (vi 0), (vi 0), nilS, nilS, nilS, (vi 1)]) (fillL_step (m := [(vi 1)]) (l2 := [(.string (⟨⟨[]⟩⟩ : ByteArray)), (.string (⟨⟨[]⟩⟩ : ByteArray)), (vi 0), (vi 0), (vi 0), nilS, nilS, nilS, (vi 1)]) rfl rfl (Nat.le_of_ble_eq_true rfl) rfl rfl)).2 ?_
    refine S.bst [(.string (⟨⟨[]⟩⟩ : ByteArray)), (.string (⟨⟨[]⟩⟩ : ByteArray)), (vi 0), (vi 0), (vi 0), nilS, nilS, nilS, (vi 1)] [(.string (⟨⟨[]⟩⟩ : ByteArray)), (.string (⟨⟨[]⟩⟩ : ByteArray)), (vi 0), (vi 0), (vi 0), nilS, nilS, nilS, (vi 1)] rfl rfl (one_cons rfl (one_cons rfl (one_cons rfl (one_cons rfl (one_cons rfl (one_cons rfl (one_cons rfl (one_cons rfl (one_cons rfl rfl))))))))) (Nat.le_of_ble_eq_true rfl) rfl (fun h S => ?_)
    refine S.bldN [(.string (⟨⟨[]⟩⟩ : ByteArray)), (.string (⟨⟨[]⟩⟩ : ByteArray)), (vi 0), (vi 0), (vi 0), nilS, nilS, nilS, (vi 1)] 0 rfl rfl rfl (by decide) ?_
    cases M
    exact H _ _ nilS nilS nilS S.drops FzS.nil FzS.nil FzS.nil
  · have M := cond_F hc M
    exact g_cosignerref08_Cut_J1_lf M S x1_F v2_F1 v2_F2 v2_F3 v1_F1 v1_F2 H
theorem cosignerref08_Cut_lf {w0 : World} {g h : AH} {Q : CR → AH → Prop} {r : G_cosignerref08_Cutted} {N : Nat} {x0 : G_api_Unit} {x1 : List Bool} {x0_w1 x0_w2 x1_v : Value} (M : cosignerref08_Cut_M N x0 x1 = some r) (sg : Sub g h) (ok : h.Ok) (x0_F1 : FzS G_api_Ins.rep 4 g x0_w1 x0.fCode) (x0_F2 : FzS G_api_Guard.rep 3 g x0_w2 x0.fGuards) (x1_F : FzS rB 1 g x1_v x1) (H : cosignerref08_Cut_H ⟨g, h, []⟩ (fun v => Q (.ret v)) r) : WF PP w0 id_cosignerref08_Cut [(.agg ⟨[(.string x0.fClass), (.string x0.fName), (vi x0.fArgs), (vi x0.fSlots), (vi x0.fFrame), x0_w1, x0_w2]⟩), x1_v] h Q := by
  refine g_cosignerref08_Cut_wp _ _ ?_
  have S := Sep.start sg ok
  unfold g_cosignerref08_Cut_F
  unfold cosignerref08_Cut_M at M
  refine S.box [(.string x0.fClass), (.string x0.fName), (vi x0.fArgs), (vi x0.fSlots), (vi x0.fFrame), x0_w1, x0_w2] rfl (one_cons rfl (one_cons rfl (one_cons rfl (one_cons rfl (one_cons rfl (one_cons x0_F1.one (one_cons x0_F2.one rfl))))))) (fun b_1 h S => ?_)
  refine S.alloc (l := [(.string (⟨⟨[]⟩⟩ : ByteArray)), (.string (⟨⟨[]⟩⟩ : ByteArray)), (vi 0), (vi 0), (vi 0), nilS, nilS, nilS, (vi 0)]) (one_cons rfl (one_cons rfl (one_cons rfl (one_cons rfl (one_cons rfl (one_cons rfl (one_cons rfl (one_cons rfl (one_cons rfl rfl))))))))) (fun b_2 h S => ?_)
  refine WP_fieldAddr.2 ?_
  refine S.bld1 1 rfl rfl ?_
  refine x0_F1.len ?_
  refine S.bldN [(.string x0.fClass), (.string x0.fName), (vi x0.fArgs), (vi x0.fSlots), (vi x0.fFrame), x0_w1, x0_w2] 1 rfl rfl rfl (by decide) ?_
  obtain ⟨c_3, hx_4, M⟩ := bind_some M
  refine cosignerref08_Plain_lf hx_4 S.sub S.ok x0_F1 x0_F2 (fun _ h  S1  => ?_)
  have S := S.call0 S1
  refine WP_notB.2 ?_
  cases hc : (!c_3)
  · have M := cond_F hc M
    refine gd_hit rfl ?_
    refine gd_hit rfl ?_
    refine x1_F.len ?_
    refine gd_hit rfl ?_
    refine gd_hit rfl ?_
    refine WP_neq.2 ?_
    refine WP_pick.2 ?_
    exact g_cosignerref08_Cut_P2_lf M S FzS.nil FzS.nil FzS.nil x1_F x0_F1 x0_F2 H
  · have M := cond_T hc M
    refine gd_mis (by decide) ?_
    refine gd_mis (by decide) ?_
    refine gd_mis (by decide) ?_
    refine gd_mis (by decide) ?_
    refine WP_pick.2 ?_
    exact g_cosignerref08_Cut_P2_lf M S FzS.nil FzS.nil FzS.nil x1_F x0_F1 x0_F2 H
end
end Go.Ve.T
namespace Go.Ve.T
open Go.Ve
noncomputable section
theorem inn_M (x a b : Int) : core_within_M x a b = some (decide (a ≤ x ∧ x ≤ b)) := by
  unfold core_within_M
  by_cases h : a ≤ x <;> simp [h]
theorem innR_M (x a b : Int) : cosignerref08_in_M x a b = some (decide (a ≤ x ∧ x ≤ b)) := by
  unfold cosignerref08_in_M
  by_cases h : a ≤ x <;> simp [h]
def trK (k : Int) : Int := if k = 3 then 11 else if k = 4 then 3 else if k = 5 then 4 else if k = 7 then 5 else if k = 9 then 10 else if k = 10 then 9 else if k = 11 then 12 else if k = 12 then 13 else k
def rowV (op : Int) : G_cosignerref08_Row := bif isOp op then ⟨⟨if op = 20 then 7 else trK (formV op).fhas.e0, trK (formV op).fhas.e1, trK (formV op).fhas.e2⟩, (formV op).fwrites, (formV op).freads, (formV op).fraises⟩ else ⟨⟨0, 0, 0⟩, 0, ⟨0, 0⟩, false⟩
theorem rowOf_M (op : Int) : cosignerref08_RowOf_M op = some (rowV op, isOp op) := by
  cases h : isOp op with
  | true => rcases op_cases h with rfl | rfl | rfl | rfl | rfl | rfl | rfl | rfl | rfl | rfl | rfl | rfl | rfl | rfl | rfl | rfl | rfl | rfl | rfl | rfl | rfl | rfl | rfl | rfl | rfl | rfl | rfl | rfl | rfl | rfl | rfl | rfl | rfl | rfl <;> rfl
  | false =>
    have hh : ∀ k : Int, 1 ≤ k → k ≤ 34 → decide (op = k) = false := fun k h1 h2 => decide_eq_false fun e => by subst e; unfold isOp at h; rw [decide_eq_false_iff_not] at h; omega
    have e : rowV op = ⟨⟨0, 0, 0⟩, 0, ⟨0, 0⟩, false⟩ := by unfold rowV; rw [h]; rfl
    rw [e]
    unfold cosignerref08_RowOf_M g_cosignerref08_RowOf_J2_M g_cosignerref08_RowOf_J3_M g_cosignerref08_RowOf_J4_M g_cosignerref08_RowOf_J5_M g_cosignerref08_RowOf_J1_M
    simp [hh, cond_false]
def scanL {α β : Type} (st : Int → α → Option (Option β)) (fin : Option β) : List α → Int → Option β
  | [], _ => fin
  | a :: r, y => match st y a with
    | some b => b
    | none => scanL st fin r (y + 1)
theorem scan_loop {α β : Type} (l : List α) (I : Nat → Int → Option β) (st : Int → α → Option (Option β)) (fin : Option β) (hl : l.length < 1000000)
    (step : ∀ n (y : Int) a, y < l.length → ix l y = some a → I (n + 1) y = match st y a with | some b => b | none => I n (wrapQ .i64 (y + 1)))
    (stop : ∀ n, I (n + 1) (l.length : Int) = fin) : ∀ (n i : Nat), i ≤ l.length → l.length < n + i → I n (i : Int) = scanL st fin (l.drop i) i
  | 0, i, h1, h2 => by omega
  | n + 1, i, h1, h2 => by
    by_cases hi : i < l.length
    · have ea : ix l (i : Int) = some l[i] := List.getElem?_eq_getElem hi
      rw [step n i l[i] (by omega) ea, List.drop_eq_getElem_cons hi]
      show _ = match st i l[i] with | some b => b | none => scanL st fin (l.drop (i + 1)) ((i : Int) + 1)
      cases st i l[i] with
      | some b => rfl
      | none =>
        show I n (wrapQ .i64 ((i : Int) + 1)) = _
        rw [wrapQ_in (by omega) (by omega)]
        have := scan_loop l I st fin hl step stop n (i + 1) hi (by omega)
        rw [show ((i + 1 : Nat) : Int) = (i : Int) + 1 from rfl] at this
        exact this
    · have : i = l.length := by omega
      subst this
      rw [stop, List.drop_length]; rfl
def idxV {α : Type} (p : α → Bool) : List α → Int → Int
  | [], _ => -1
  | a :: r, y => bif p a then y else idxV p r (y + 1)
theorem idx_scan {α : Type} (p : α → Bool) : ∀ (l : List α) (y : Int), scanL (fun y a => bif p a then some (some y) else none) (some (-1)) l y = some (idxV p l y)
  | [], y => rfl
  | a :: r, y => by
    unfold scanL idxV
    cases p a with
    | true => rfl
    | false => exact idx_scan p r (y + 1)
theorem idx_ge {α : Type} (p : α → Bool) : ∀ (l : List α) (y : Int), 0 ≤ y → idxV p l y = -1 ∨ ∃ (k : Nat) (a : α), l[k]? = some a ∧ p a = true ∧ idxV p l y = y + k
  | [], y, _ => .inl rfl
  | a :: r, y, hy => by
    unfold idxV
    cases hp : p a with
    | true => exact .inr ⟨0, a, rfl, hp, (Int.add_zero y).symm⟩
    | false =>
      rcases idx_ge p r (y + 1) (by omega) with h | ⟨k, b, h1, h2, h3⟩
      · exact .inl h
      · refine .inr ⟨k + 1, b, h1, h2, ?_⟩
        show idxV p r (y + 1) = _
        rw [h3]; omega
def jumpO (i : G_api_Ins) : Option Int := if i.fOp = 24 then some i.fA else if i.fOp = 25 ∨ i.fOp = 32 then some i.fB else none
theorem jumpR_M (i : G_api_Ins) : cosignerref08_jump_M i = some (match jumpO i with | some x => (x, true) | none => (0, false)) := by
  unfold cosignerref08_jump_M g_cosignerref08_jump_J1_M g_cosignerref08_jump_P1_M g_cosignerref08_jump_J2_M jumpO
  by_cases h24 : i.fOp = 24
  · simp [h24]
  · by_cases h25 : i.fOp = 25
    · simp [h24, h25]
    · by_cases h32 : i.fOp = 32 <;> simp [h24, h25, h32]
theorem places_M (n : Nat) (i : G_api_Ins) (ho : isOp i.fOp = true) : core_places_M (n + 4) i = some (jumpO i).toList := by
  unfold core_places_M core_formOf_M jumpO
  rcases op_cases ho with h | h | h | h | h | h | h | h | h | h | h | h | h | h | h | h | h | h | h | h | h | h | h | h | h | h | h | h | h | h | h | h | h | h <;> rw [h] <;> rfl
theorem idxf_guard (N : Nat) (l : List G_api_Guard) (f : G_api_Guard → Option Bool) (p : G_api_Guard → Bool) (hf : ∀ a, f a = some (p a)) (hl : l.length < 1000000) (hN : l.length < N) : slices_IndexFunc_api_Guard_api_Guard_M N l f = some (idxV p l 0) := by
  unfold slices_IndexFunc_api_Guard_api_Guard_M
  rw [← idx_scan]
  exact scan_loop l (fun n y => g_slices_IndexFunc_api_Guard_api_Guard_L2_I N (l.length : Int) l f n y) _ _ hl (fun n y a hy ha => by
    show (bif decide (y < (l.length : Int)) then ((ix l y).bind fun c_1 => (f c_1).bind fun c_7 => bif c_7 then some y else g_slices_IndexFunc_api_Guard_api_Guard_L2_I N (l.length : Int) l f n (wrapQ .i64 (y + 1))) else some (-1)) = _
    rw [decide_eq_true hy, ha]
    show ((f a).bind _) = _
    rw [hf]
    cases p a <;> rfl) (fun n => by
    show (bif decide ((l.length : Int) < (l.length : Int)) then _ else some (-1)) = _
    rw [decide_eq_false (Int.lt_irrefl _)]; rfl) N 0 (Nat.zero_le _) (by omega)
theorem idxf_int (N : Nat) (l : List Int) (f : Int → Option Bool) (p : Int → Bool) (hf : ∀ a, f a = some (p a)) (hl : l.length < 1000000) (hN : l.length < N) : slices_IndexFunc_int_int_M N l f = some (idxV p l 0) := by
  unfold slices_IndexFunc_int_int_M
  rw [← idx_scan]
  exact scan_loop l (fun n y => g_slices_IndexFunc_int_int_L2_I N (l.length : Int) l f n y) _ _ hl (fun n y a hy ha => by
    show (bif decide (y < (l.length : Int)) then ((ix l y).bind fun c_1 => (f c_1).bind fun c_7 => bif c_7 then some y else g_slices_IndexFunc_int_int_L2_I N (l.length : Int) l f n (wrapQ .i64 (y + 1))) else some (-1)) = _
    rw [decide_eq_true hy, ha]
    show ((f a).bind _) = _
    rw [hf]
    cases p a <;> rfl) (fun n => by
    show (bif decide ((l.length : Int) < (l.length : Int)) then _ else some (-1)) = _
    rw [decide_eq_false (Int.lt_irrefl _)]; rfl) N 0 (Nat.zero_le _) (by omega)
theorem all_scan {α β : Type} (p : α → Bool) (b : β) (fin : Option β) : ∀ (l : List α) (y : Int), scanL (fun _ a => bif p a then none else some (some b)) fin l y = bif l.all p then fin else some b
  | [], _ => rfl
  | a :: r, y => by
    unfold scanL
    rw [List.all_cons]
    cases p a with
    | false => rfl
    | true => exact all_scan p b fin r (y + 1)
theorem idx_any {α : Type} (p : α → Bool) (l : List α) : decide (0 ≤ idxV p l 0) = l.any p := by
  have key : ∀ (l : List α) (y : Int), 0 ≤ y → decide (0 ≤ idxV p l y) = l.any p := by
    intro l
    induction l with
    | nil => intro y _; rfl
    | cons a r ih =>
      intro y hy
      unfold idxV
      rw [List.any_cons]
      cases p a with
      | true => exact decide_eq_true hy
      | false => exact ih (y + 1) (by omega)
  exact key l 0 (Int.le_refl 0)
def insOk (n : Int) (i : G_api_Ins) : Bool := isOp i.fOp && (match jumpO i with | some x => decide (0 ≤ x ∧ x ≤ n - 1) | none => true)
def gBad (n : Int) (g : G_api_Guard) : Bool := decide (g.fFrom < 0) || (decide (g.fTo ≤ g.fFrom) || (decide (n < g.fTo) || !decide (0 ≤ g.fAt ∧ g.fAt ≤ n - 1)))
def plainV (u : G_api_Unit) : Bool := decide (1 ≤ (u.fCode.length : Int) ∧ (u.fCode.length : Int) ≤ 600) && (!decide (40 < (u.fGuards.length : Int)) && (decide (0 ≤ u.fSlots ∧ u.fSlots ≤ 200) && (decide (0 ≤ u.fFrame ∧ u.fFrame ≤ 200) && (u.fCode.all (insOk u.fCode.length) && !u.fGuards.any (gBad u.fCode.length)))))
theorem gBad_M (n : Int) (hn : wrapQ .i64 (n - 1) = n - 1) (g : G_api_Guard) : core_plain_2_M g n = some (gBad n g) := by
  unfold core_plain_2_M g_core_plain_2_P2_M g_core_plain_2_P1_M gBad
  rw [inn_M, hn]
  cases decide (g.fFrom < 0) <;> cases decide (g.fTo ≤ g.fFrom) <;> cases decide (n < g.fTo) <;> rfl
theorem core_plain_code (N : Nat) (hN : 1000 ≤ N) (u : G_api_Unit) (hl : u.fCode.length ≤ 600) (hg : u.fGuards.length ≤ 40) : g_core_plain_J1_M N u (u.fCode.length : Int) = some (u.fCode.all (insOk u.fCode.length) && !u.fGuards.any (gBad u.fCode.length)) := by
  have hw : wrapQ .i64 ((u.fCode.length : Int) - 1) = (u.fCode.length : Int) - 1 := wrapQ_in (by omega) (by omega)
  have hfin : g_core_plain_J2_M N u (u.fCode.length : Int) = some (!u.fGuards.any (gBad u.fCode.length)) := by
    unfold g_core_plain_J2_M slices_ContainsFunc_api_Guard_api_Guard_M
    rw [idxf_guard N u.fGuards _ (gBad u.fCode.length) (fun a => gBad_M _ hw a) (by omega) (by omega)]
    show some (!decide (0 ≤ idxV (gBad u.fCode.length) u.fGuards 0)) = _
    rw [idx_any]
  obtain ⟨n, rfl⟩ : ∃ n, N = n + 4 := ⟨N - 4, by omega⟩
  unfold g_core_plain_J1_M
  have h := scan_loop u.fCode (fun m y => g_core_plain_L3_I (n + 4) (u.fCode.length : Int) u.fCode (u.fCode.length : Int) u m y) (fun _ a => bif insOk u.fCode.length a then none else some (some false)) (some (!u.fGuards.any (gBad u.fCode.length))) (by omega)
    (fun m y a hy ha => by
      show (bif decide (y < (u.fCode.length : Int)) then ((ix u.fCode y).bind fun c_10 => (some (formV c_10.fOp, isOp c_10.fOp)).bind fun c_17 => bif (!c_17.2) then g_core_plain_P1_M (n + 4) y true u _ else ((core_places_M (n + 4) c_10).bind fun c_20 => (slices_ContainsFunc_int_int_M (n + 4) c_20 (fun a0 => core_plain_1_M a0 (u.fCode.length : Int))).bind fun c_25 => g_core_plain_P1_M (n + 4) y c_25 u _)) else _) = _
      rw [decide_eq_true hy, ha]
      simp only [Option.bind_some, cond_true]
      unfold insOk
      cases ho : isOp a.fOp with
      | false => rfl
      | true =>
        rw [places_M n a ho]
        simp only [Option.bind_some, Bool.not_true, cond_false, Bool.true_and]
        unfold slices_ContainsFunc_int_int_M
        have hlen : (jumpO a).toList.length ≤ 1 := by cases jumpO a <;> simp
        rw [idxf_int (n + 4) _ _ (fun x => !decide (0 ≤ x ∧ x ≤ (u.fCode.length : Int) - 1)) (fun x => by unfold core_plain_1_M; rw [inn_M, hw]; rfl) (by omega) (by omega)]
        simp only [Option.bind_some]
        rw [idx_any]
        cases jumpO a with
        | none => rfl
        | some x =>
          have e1 : ((some x).toList.any fun x => !decide (0 ≤ x ∧ x ≤ (u.fCode.length : Int) - 1)) = !decide (0 ≤ x ∧ x ≤ (u.fCode.length : Int) - 1) := by simp
          rw [e1]
          dsimp only
          by_cases hd : 0 ≤ x ∧ x ≤ (u.fCode.length : Int) - 1
          · rw [decide_eq_true hd]; rfl
          · rw [decide_eq_false hd]; rfl)
    (fun m => by
      show (bif decide ((u.fCode.length : Int) < (u.fCode.length : Int)) then _ else g_core_plain_J2_M (n + 4) u (u.fCode.length : Int)) = _
      rw [decide_eq_false (Int.lt_irrefl _)]; exact hfin) (n + 4) 0 (Nat.zero_le _) (by omega)
  refine h.trans ?_
  rw [List.drop_zero, all_scan]
  cases u.fCode.all (insOk u.fCode.length) <;> rfl
theorem plain_M (N : Nat) (hN : 1000 ≤ N) (u : G_api_Unit) : core_plain_M N u = some (plainV u) := by
  unfold core_plain_M plainV g_core_plain_P4_M g_core_plain_P3_M g_core_plain_P2_M
  rw [inn_M, inn_M, inn_M]
  by_cases h1 : 1 ≤ (u.fCode.length : Int) ∧ (u.fCode.length : Int) ≤ 600
  · rw [decide_eq_true h1]
    by_cases h2 : 40 < (u.fGuards.length : Int)
    · rw [decide_eq_true h2]; rfl
    · rw [decide_eq_false h2, core_plain_code N hN u (by omega) (by omega)]
      cases decide (0 ≤ u.fSlots ∧ u.fSlots ≤ 200) <;> cases decide (0 ≤ u.fFrame ∧ u.fFrame ≤ 200) <;> rfl
  · rw [decide_eq_false h1]; rfl
theorem plainR_code (N : Nat) (hN : 1000 ≤ N) (u : G_api_Unit) (hl : u.fCode.length ≤ 600) (hg : u.fGuards.length ≤ 40) : g_cosignerref08_Plain_J1_M N (u.fCode.length : Int) u = some (u.fCode.all (insOk u.fCode.length) && !u.fGuards.any (gBad u.fCode.length)) := by
  have hw : wrapQ .i64 ((u.fCode.length : Int) - 1) = (u.fCode.length : Int) - 1 := wrapQ_in (by omega) (by omega)
  have hfin : g_cosignerref08_Plain_J2_M N u (u.fCode.length : Int) = some (!u.fGuards.any (gBad u.fCode.length)) := by
    unfold g_cosignerref08_Plain_J2_M
    have h := scan_loop u.fGuards (fun m y => g_cosignerref08_Plain_L4_I N u (u.fCode.length : Int) m y) (fun _ a => bif !gBad u.fCode.length a then none else some (some false)) (some true) (by omega)
      (fun m y a hy ha => by
        show (bif decide (y < (u.fGuards.length : Int)) then ((ix u.fGuards y).bind fun c_27 => bif (decide (c_27.fFrom < 0)) then g_cosignerref08_Plain_P3_M N c_27 (u.fCode.length : Int) y true u _ else g_cosignerref08_Plain_P3_M N c_27 (u.fCode.length : Int) y (decide (c_27.fTo ≤ c_27.fFrom)) u _) else _) = _
        rw [decide_eq_true hy, ha]
        simp only [Option.bind_some, cond_true]
        unfold g_cosignerref08_Plain_P3_M g_cosignerref08_Plain_P2_M g_cosignerref08_Plain_P1_M gBad
        rw [innR_M, hw]
        cases decide (a.fFrom < 0) <;> cases decide (a.fTo ≤ a.fFrom) <;> cases decide ((u.fCode.length : Int) < a.fTo) <;> cases decide (0 ≤ a.fAt ∧ a.fAt ≤ (u.fCode.length : Int) - 1) <;> rfl)
      (fun m => by
        show (bif decide ((u.fGuards.length : Int) < (u.fGuards.length : Int)) then _ else some true) = _
        rw [decide_eq_false (Int.lt_irrefl _)]; rfl) N 0 (Nat.zero_le _) (by omega)
    refine h.trans ?_
    rw [List.drop_zero, all_scan]
    have : u.fGuards.all (fun a => !gBad u.fCode.length a) = !u.fGuards.any (gBad u.fCode.length) := by simp [List.all_eq_not_any_not]
    rw [this]
    cases u.fGuards.any (gBad u.fCode.length) <;> rfl
  unfold g_cosignerref08_Plain_J1_M
  have h := scan_loop u.fCode (fun m y => g_cosignerref08_Plain_L7_I N (u.fCode.length : Int) u m y) (fun _ a => bif insOk u.fCode.length a then none else some (some false)) (some (!u.fGuards.any (gBad u.fCode.length))) (by omega)
    (fun m y a hy ha => by
      show (bif decide (y < (u.fCode.length : Int)) then g_cosignerref08_Plain_J8_M N u y (u.fCode.length : Int) _ else _) = _
      unfold g_cosignerref08_Plain_J8_M
      rw [decide_eq_true hy, ha]
      simp only [Option.bind_some, cond_true, rowOf_M, jumpR_M, innR_M, hw]
      unfold g_cosignerref08_Plain_P4_M insOk
      cases isOp a.fOp with
      | false => rfl
      | true =>
        cases jumpO a with
        | none => rfl
        | some x =>
          simp only [Bool.not_true, cond_false, cond_true, Bool.true_and]
          cases decide (0 ≤ x ∧ x ≤ (u.fCode.length : Int) - 1) <;> rfl)
    (fun m => by
      show (bif decide ((u.fCode.length : Int) < (u.fCode.length : Int)) then _ else g_cosignerref08_Plain_J2_M N u (u.fCode.length : Int)) = _
      rw [decide_eq_false (Int.lt_irrefl _)]; exact hfin) N 0 (Nat.zero_le _) (by omega)
  refine h.trans ?_
  rw [List.drop_zero, all_scan]
  cases u.fCode.all (insOk u.fCode.length) <;> rfl
theorem plainR_M (N : Nat) (hN : 1000 ≤ N) (u : G_api_Unit) : cosignerref08_Plain_M N u = some (plainV u) := by
  unfold cosignerref08_Plain_M plainV g_cosignerref08_Plain_P7_M g_cosignerref08_Plain_P6_M g_cosignerref08_Plain_P5_M
  rw [innR_M, innR_M, innR_M]
  by_cases h1 : 1 ≤ (u.fCode.length : Int) ∧ (u.fCode.length : Int) ≤ 600
  · rw [decide_eq_true h1]
    by_cases h2 : 40 < (u.fGuards.length : Int)
    · rw [decide_eq_true h2]; rfl
    · rw [decide_eq_false h2, plainR_code N hN u (by omega) (by omega)]
      cases decide (0 ≤ u.fSlots ∧ u.fSlots ≤ 200) <;> cases decide (0 ≤ u.fFrame ∧ u.fFrame ≤ 200) <;> rfl
  · rw [decide_eq_false h1]; rfl
end
end Go.Ve.T
namespace Go.Ve.T
open Go.Ve
noncomputable section
theorem up_loop {ρ : Type} (len : Nat) (I : Nat → Nat → Option ρ) (F : Option ρ) (step : ∀ n i, i < len → I (n + 1) i = I n (i + 1)) (stop : ∀ n, I (n + 1) len = F) : ∀ n i, i ≤ len → len < n + i → I n i = F
  | 0, i, h1, h2 => by omega
  | n + 1, i, h1, h2 => by
    by_cases hi : i < len
    · rw [step n i hi]; exact up_loop len I F step stop n (i + 1) hi (by omega)
    · have : i = len := by omega
      subst this; exact stop n
theorem wr_up (i : Nat) (h : i < 1000000) : wrapQ .i64 ((i : Int) + 1) = ((i + 1 : Nat) : Int) := by rw [wrapQ_in (by omega) (by omega)]; rfl
theorem lt_int (i n : Nat) (h : i < n) : decide ((i : Int) < (n : Int)) = true := decide_eq_true (by omega)
theorem nlt_int (n : Nat) : decide ((n : Int) < (n : Int)) = false := decide_eq_false (Int.lt_irrefl _)
def cnt (keep : List Bool) (i : Nat) : Nat := (keep.take i).count true
def atL (keep : List Bool) (n : Nat) : List Int := (List.range n).map fun j => (cnt keep j : Int)
def mvI (A : List Int) (x : G_api_Ins) : G_api_Ins := if x.fOp = 24 then ⟨x.fOp, A.getD x.fA.toNat 0, x.fB, x.fC⟩ else if x.fOp = 25 ∨ x.fOp = 32 then ⟨x.fOp, x.fA, A.getD x.fB.toNat 0, x.fC⟩ else x
def cutC (A : List Int) (code : List G_api_Ins) (keep : List Bool) (i : Nat) : List G_api_Ins := (List.range i).filterMap fun j => match keep[j]?, code[j]? with | some true, some x => some (mvI A x) | _, _ => none
def mvG (A : List Int) (g : G_api_Guard) : G_api_Guard := ⟨A.getD g.fFrom.toNat 0, A.getD g.fTo.toNat 0, A.getD g.fAt.toNat 0⟩
def cutG (A : List Int) (gs : List G_api_Guard) (i : Nat) : List G_api_Guard := (List.range i).filterMap fun j => match gs[j]? with | some g => if (mvG A g).fFrom < (mvG A g).fTo then some (mvG A g) else none | none => none
theorem cnt_succ (keep : List Bool) (i : Nat) (b : Bool) (h : keep[i]? = some b) : cnt keep (i + 1) = cnt keep i + (if b then 1 else 0) := by
  unfold cnt
  rw [List.take_add_one, h, List.count_append]
  cases b <;> simp
theorem cnt_le (keep : List Bool) (i : Nat) : cnt keep i ≤ i := by
  unfold cnt
  exact Nat.le_trans List.count_le_length (by rw [List.length_take]; exact Nat.min_le_left _ _)
theorem cnt_mono (keep : List Bool) {i j : Nat} (h : i ≤ j) : cnt keep i ≤ cnt keep j := by
  unfold cnt
  have e : keep.take i = (keep.take j).take i := by rw [List.take_take, Nat.min_eq_left h]
  rw [e]
  exact (List.take_sublist _ _).count_le _
theorem atL_succ (keep : List Bool) (i : Nat) : atL keep (i + 1) = atL keep i ++ [(cnt keep i : Int)] := by unfold atL; rw [List.range_succ, List.map_append]; rfl
theorem atL_len (keep : List Bool) (n : Nat) : (atL keep n).length = n := by unfold atL; simp
theorem atL_ix (keep : List Bool) (n : Nat) (x : Int) (h0 : 0 ≤ x) (h1 : x < n) : ix (atL keep n) x = some ((atL keep n).getD x.toNat 0) := by
  obtain ⟨k, rfl⟩ := Int.eq_ofNat_of_zero_le h0
  have : k < (atL keep n).length := by rw [atL_len]; omega
  rw [ix_nat, Int.toNat_natCast, List.getD_eq_getElem?_getD, List.getElem?_eq_getElem this]; rfl
theorem atL_get (keep : List Bool) (n k : Nat) (h : k < n) : (atL keep n).getD k 0 = (cnt keep k : Int) := by
  unfold atL; simp [List.getD_eq_getElem?_getD, h]
structure CutOk (u : G_api_Unit) (keep : List Bool) : Prop where
  pl : plainV u = true
  len : keep.length = u.fCode.length
theorem CutOk.n1 {u : G_api_Unit} {keep : List Bool} (H : CutOk u keep) : 1 ≤ u.fCode.length ∧ u.fCode.length ≤ 600 ∧ u.fGuards.length ≤ 40 := by
  have := H.pl
  unfold plainV at this
  simp only [Bool.and_eq_true, decide_eq_true_eq, Bool.not_eq_true', decide_eq_false_iff_not] at this
  omega
theorem CutOk.jmp {u : G_api_Unit} {keep : List Bool} (H : CutOk u keep) {i : Nat} {x : G_api_Ins} (hx : u.fCode[i]? = some x) {p : Int} (hp : jumpO x = some p) : 0 ≤ p ∧ p < u.fCode.length := by
  have := H.pl
  unfold plainV at this
  simp only [Bool.and_eq_true] at this
  have h := List.all_eq_true.1 this.2.2.2.2.1 x (List.mem_of_getElem? hx)
  unfold insOk at h
  rw [hp] at h
  simp only [Bool.and_eq_true, decide_eq_true_eq] at h
  omega
theorem CutOk.grd {u : G_api_Unit} {keep : List Bool} (H : CutOk u keep) {i : Nat} {g : G_api_Guard} (hg : u.fGuards[i]? = some g) : 0 ≤ g.fFrom ∧ g.fFrom < g.fTo ∧ g.fTo ≤ u.fCode.length ∧ 0 ≤ g.fAt ∧ g.fAt < u.fCode.length := by
  have := H.pl
  unfold plainV at this
  simp only [Bool.and_eq_true, Bool.not_eq_true', List.any_eq_false] at this
  have h := this.2.2.2.2.2 g (List.mem_of_getElem? hg)
  unfold gBad at h
  simp only [Bool.or_eq_true, decide_eq_true_eq, Bool.not_eq_true', decide_eq_false_iff_not, not_or, Decidable.not_not] at h
  omega
theorem cutC_succ (A : List Int) (code : List G_api_Ins) (keep : List Bool) (i : Nat) {k : Bool} {x : G_api_Ins} (hk : keep[i]? = some k) (hx : code[i]? = some x) : cutC A code keep (i + 1) = if k then cutC A code keep i ++ [mvI A x] else cutC A code keep i := by
  unfold cutC
  rw [List.range_succ, List.filterMap_append]
  cases k <;> simp [hk, hx]
theorem cutC_len (A : List Int) (code : List G_api_Ins) (keep : List Bool) (i : Nat) : (cutC A code keep i).length ≤ i := by
  unfold cutC; exact Nat.le_trans (List.length_filterMap_le _ _) (by simp)
theorem cutG_succ (A : List Int) (gs : List G_api_Guard) (i : Nat) {g : G_api_Guard} (hg : gs[i]? = some g) : cutG A gs (i + 1) = if (mvG A g).fFrom < (mvG A g).fTo then cutG A gs i ++ [mvG A g] else cutG A gs i := by
  unfold cutG
  rw [List.range_succ, List.filterMap_append]
  by_cases h : (mvG A g).fFrom < (mvG A g).fTo <;> simp [hg, h]
theorem cutG_len (A : List Int) (gs : List G_api_Guard) (i : Nat) : (cutG A gs i).length ≤ i := by
  unfold cutG; exact Nat.le_trans (List.length_filterMap_le _ _) (by simp)
theorem mvI_at {u : G_api_Unit} {keep : List Bool} (H : CutOk u keep) {i : Nat} {x : G_api_Ins} (hx : u.fCode[i]? = some x) : mvI (atL keep (u.fCode.length + 1)) x = mvI (atL keep u.fCode.length) x := by
  unfold mvI
  by_cases h1 : x.fOp = 24
  · have := H.jmp hx (p := x.fA) (by unfold jumpO; rw [if_pos h1])
    rw [if_pos h1, if_pos h1, atL_get _ _ _ (by omega), atL_get _ _ _ (by omega)]
  · by_cases h2 : x.fOp = 25 ∨ x.fOp = 32
    · have := H.jmp hx (p := x.fB) (by unfold jumpO; rw [if_neg h1, if_pos h2])
      rw [if_neg h1, if_neg h1, if_pos h2, if_pos h2, atL_get _ _ _ (by omega), atL_get _ _ _ (by omega)]
    · rw [if_neg h1, if_neg h1, if_neg h2, if_neg h2]
theorem cutC_at {u : G_api_Unit} {keep : List Bool} (H : CutOk u keep) (i : Nat) : cutC (atL keep (u.fCode.length + 1)) u.fCode keep i = cutC (atL keep u.fCode.length) u.fCode keep i := by
  unfold cutC
  congr 1
  funext j
  cases hk : keep[j]? with
  | none => rfl
  | some b =>
    cases hx : u.fCode[j]? with
    | none => cases b <;> rfl
    | some x => cases b with
      | false => rfl
      | true => simp only [mvI_at H hx]
def cutU (u : G_api_Unit) (keep : List Bool) : G_api_Unit := ⟨u.fClass, u.fName, u.fArgs, u.fSlots, u.fFrame, cutC (atL keep u.fCode.length) u.fCode keep u.fCode.length, cutG (atL keep (u.fCode.length + 1)) u.fGuards u.fGuards.length⟩
theorem cutCore (N : Nat) (hN : 1000 ≤ N) (u : G_api_Unit) (keep : List Bool) (H : CutOk u keep) (v2 : G_api_Unit) : g_core_Cut_J2_M N u keep v2 = some (cutU u keep, atL keep u.fCode.length, 0) := by
  obtain ⟨n1, n2, n3⟩ := H.n1
  have hl := H.len
  unfold g_core_Cut_J2_M
  have gl : ∀ C : List G_api_Ins, g_core_Cut_L6_I N (u.fGuards.length : Int) u.fGuards (atL keep (u.fCode.length + 1)) (atL keep u.fCode.length) v2 N u.fClass u.fName u.fArgs u.fSlots u.fFrame C [] 0 = some (⟨u.fClass, u.fName, u.fArgs, u.fSlots, u.fFrame, C, cutG (atL keep (u.fCode.length + 1)) u.fGuards u.fGuards.length⟩, atL keep u.fCode.length, 0) := fun C => by
    refine (up_loop u.fGuards.length (fun n i => g_core_Cut_L6_I N (u.fGuards.length : Int) u.fGuards (atL keep (u.fCode.length + 1)) (atL keep u.fCode.length) v2 n u.fClass u.fName u.fArgs u.fSlots u.fFrame C (cutG (atL keep (u.fCode.length + 1)) u.fGuards i) (i : Int)) _ (fun n i hi => ?_) (fun n => ?_) N 0 (Nat.zero_le _) (by omega))
    · show g_core_Cut_L6_M N _ _ _ _ _ _ _ _ _ _ _ _ _ _ = _
      unfold g_core_Cut_L6_M g_core_Cut_J7_M g_core_Cut_J8_M
      have hg : u.fGuards[i]? = some u.fGuards[i] := List.getElem?_eq_getElem hi
      obtain ⟨g1, g2, g3, g4, g5⟩ := H.grd hg
      generalize u.fGuards[i] = g at *
      rw [lt_int i _ hi, ix_nat, hg]
      simp only [Option.bind_some, cond_true]
      rw [atL_ix _ _ _ g1 (by omega), atL_ix _ _ _ (by omega) (by omega), atL_ix _ _ _ g4 (by omega), cutG_succ _ _ _ hg, wr_up i (by omega)]
      simp only [Option.bind_some]
      have he : (atL keep u.fCode.length).getD g.fAt.toNat 0 = (atL keep (u.fCode.length + 1)).getD g.fAt.toNat 0 := by rw [atL_get _ _ _ (by omega), atL_get _ _ _ (by omega)]
      rw [he]
      have hlen := cutG_len (atL keep (u.fCode.length + 1)) u.fGuards i
      by_cases hc : (mvG (atL keep (u.fCode.length + 1)) g).fFrom < (mvG (atL keep (u.fCode.length + 1)) g).fTo
      · rw [if_pos hc, show decide ((atL keep (u.fCode.length + 1)).getD g.fFrom.toNat 0 < (atL keep (u.fCode.length + 1)).getD g.fTo.toNat 0) = true from decide_eq_true hc]
        rw [show decide ((cutG (atL keep (u.fCode.length + 1)) u.fGuards i).length + [(G_api_Guard.mk ((atL keep (u.fCode.length + 1)).getD g.fFrom.toNat 0) ((atL keep (u.fCode.length + 1)).getD g.fTo.toNat 0) ((atL keep (u.fCode.length + 1)).getD g.fAt.toNat 0))].length ≤ 1048576) = true from decide_eq_true (by simp; omega)]
        rfl
      · rw [if_neg hc, show decide ((atL keep (u.fCode.length + 1)).getD g.fFrom.toNat 0 < (atL keep (u.fCode.length + 1)).getD g.fTo.toNat 0) = false from decide_eq_false hc]
        rfl
    · show g_core_Cut_L6_M N _ _ _ _ _ _ _ _ _ _ _ _ _ _ = _
      unfold g_core_Cut_L6_M
      rw [nlt_int]; rfl
  have hcut : g_core_Cut_J4_M N (atL keep u.fCode.length) (cnt keep u.fCode.length : Int) u u.fClass u.fName u.fArgs u.fSlots u.fFrame (cutC (atL keep u.fCode.length) u.fCode keep u.fCode.length) [] v2 = some (cutU u keep, atL keep u.fCode.length, 0) := by
    unfold g_core_Cut_J4_M slices_Clone_int_int_M
    rw [atL_len, show decide (u.fCode.length ≤ 1048576) = true from decide_eq_true (by omega)]
    show gu (decide ((atL keep u.fCode.length).length + 1 ≤ 1048576)) _ = _
    rw [atL_len, show decide (u.fCode.length + 1 ≤ 1048576) = true from decide_eq_true (by omega), ← atL_succ]
    exact gl _
  have cl : g_core_Cut_L9_I N (u.fCode.length : Int) u.fCode keep (atL keep u.fCode.length) (cnt keep u.fCode.length : Int) u v2 N u.fClass u.fName u.fArgs u.fSlots u.fFrame [] [] 0 = some (cutU u keep, atL keep u.fCode.length, 0) := by
    refine (up_loop u.fCode.length (fun n i => g_core_Cut_L9_I N (u.fCode.length : Int) u.fCode keep (atL keep u.fCode.length) (cnt keep u.fCode.length : Int) u v2 n u.fClass u.fName u.fArgs u.fSlots u.fFrame (cutC (atL keep u.fCode.length) u.fCode keep i) [] (i : Int)) _ (fun n i hi => ?_) (fun n => ?_) N 0 (Nat.zero_le _) (by omega))
    · show g_core_Cut_L9_M N _ _ _ _ _ _ _ _ _ _ _ _ _ _ _ _ = _
      unfold g_core_Cut_L9_M g_core_Cut_J10_M g_core_Cut_J12_M g_core_Cut_J14_M g_core_Cut_J13_M g_core_Cut_J11_M
      have hx : u.fCode[i]? = some u.fCode[i] := List.getElem?_eq_getElem hi
      have hk : keep[i]? = some keep[i] := List.getElem?_eq_getElem (by omega)
      have hj := fun p => H.jmp hx (p := p)
      generalize u.fCode[i] = x at *
      generalize keep[i] = k at *
      rw [lt_int i _ hi, ix_nat, hx, ix_nat, hk]
      simp only [Option.bind_some, cond_true]
      rw [cutC_succ _ _ _ _ hk hx, wr_up i (by omega)]
      have hlen := cutC_len (atL keep u.fCode.length) u.fCode keep i
      have hg : ∀ y : G_api_Ins, decide ((cutC (atL keep u.fCode.length) u.fCode keep i).length + [y].length ≤ 1048576) = true := fun y => decide_eq_true (by simp; omega)
      cases k with
      | false => rfl
      | true =>
        simp only [Bool.not_true, cond_false, if_true]
        unfold mvI
        unfold jumpO at hj
        by_cases h1 : x.fOp = 24
        · have := hj x.fA (by rw [if_pos h1])
          rw [decide_eq_true h1, if_pos h1, atL_ix _ _ _ this.1 (by omega)]
          simp only [cond_true, Option.bind_some, hg]; rfl
        · rw [decide_eq_false h1, if_neg h1]
          by_cases h2 : x.fOp = 25
          · have := hj x.fB (by rw [if_neg h1, if_pos (Or.inl h2)])
            rw [decide_eq_true h2, if_pos (Or.inl h2), atL_ix _ _ _ this.1 (by omega)]
            simp only [cond_true, cond_false, Option.bind_some, hg]; rfl
          · rw [decide_eq_false h2]
            by_cases h3 : x.fOp = 32
            · have := hj x.fB (by rw [if_neg h1, if_pos (Or.inr h3)])
              rw [decide_eq_true h3, if_pos (Or.inr h3), atL_ix _ _ _ this.1 (by omega)]
              simp only [cond_true, cond_false, Option.bind_some, hg]; rfl
            · rw [decide_eq_false h3, if_neg (by simp [h2, h3])]
              simp only [cond_false, hg]; rfl
    · show g_core_Cut_L9_M N _ _ _ _ _ _ _ _ _ _ _ _ _ _ _ _ = _
      unfold g_core_Cut_L9_M
      rw [nlt_int]; exact hcut
  have key := up_loop keep.length (fun n i => g_core_Cut_L15_I N (keep.length : Int) keep u v2 n u.fClass u.fName u.fArgs u.fSlots u.fFrame [] [] (atL keep i) (cnt keep i : Int) (i : Int)) (some (cutU u keep, atL keep u.fCode.length, 0)) (fun n i hi => by
    show g_core_Cut_L15_M N _ _ _ _ _ _ _ _ _ _ _ _ _ _ _ = _
    unfold g_core_Cut_L15_M g_core_Cut_J16_M g_core_Cut_J17_M
    have hk : keep[i]? = some keep[i] := List.getElem?_eq_getElem hi
    have hc := cnt_le keep i
    generalize keep[i] = k at *
    rw [lt_int i _ hi, ix_nat, hk]
    simp only [Option.bind_some, cond_true]
    rw [wr_up i (by omega), wr_up (cnt keep i) (by omega), show decide ((atL keep i).length + [(cnt keep i : Int)].length ≤ 1048576) = true from decide_eq_true (by rw [atL_len]; simp; omega), ← atL_succ, cnt_succ _ _ _ hk]
    cases k <;> rfl) (fun n => by
    show g_core_Cut_L15_M N _ _ _ _ _ _ _ _ _ _ _ _ _ _ _ = _
    unfold g_core_Cut_L15_M g_core_Cut_J3_M
    rw [nlt_int, hl]; exact cl) N 0 (Nat.zero_le _) (by omega)
  exact key
end
end Go.Ve.T
namespace Go.Ve.T
open Go.Ve
noncomputable section
def vL (keep : List Bool) (n i : Nat) : List Int := (List.range n).map fun j => if j < i then (cnt keep j : Int) else 0
theorem vL_len (keep : List Bool) (n i : Nat) : (vL keep n i).length = n := by unfold vL; simp
theorem vL_zero (keep : List Bool) (n : Nat) : vL keep n 0 = List.replicate n 0 := by
  unfold vL
  apply List.ext_getElem
  · simp
  · intro j h1 h2; simp
theorem vL_set (keep : List Bool) (n i : Nat) (h : i < n) : (vL keep n i).set i (cnt keep i : Int) = vL keep n (i + 1) := by
  unfold vL
  apply List.ext_getElem
  · simp
  · intro j h1 h2
    rw [List.getElem_set]
    by_cases e : i = j
    · subst e; simp
    · rw [if_neg e]
      simp only [List.getElem_map, List.getElem_range]
      by_cases h3 : j < i
      · rw [if_pos h3, if_pos (by omega)]
      · rw [if_neg h3, if_neg (by omega)]
theorem vL_full (keep : List Bool) (n : Nat) : vL keep n n = atL keep n := by
  unfold vL atL
  apply List.ext_getElem
  · simp
  · intro j h1 h2; simp at h1; simp [h1]
theorem vL_ix (keep : List Bool) (n i j : Nat) (h : j < n) : ∃ x, ix (vL keep n i) (j : Int) = some x := ⟨_, List.getElem?_eq_getElem (by rw [vL_len]; exact h)⟩
theorem atL_take (keep : List Bool) (n : Nat) : subL (atL keep (n + 1)) 0 (n : Int) = some (atL keep n) := by
  unfold subL
  have e : (decide ((0 : Int) ≤ 0) && decide ((0 : Int) ≤ (n : Int)) && decide ((n : Int) ≤ ((atL keep (n + 1)).length : Int))) = true := by
    rw [atL_len]; simp; omega
  rw [e]
  show some ((List.take (Int.toNat (n : Int)) (atL keep (n + 1))).drop 0) = _
  rw [atL_succ, Int.toNat_natCast, List.drop_zero, List.take_append_of_le_length (by rw [atL_len]; exact Nat.le_refl _), List.take_of_length_le (by rw [atL_len]; exact Nat.le_refl _)]
theorem cutRef (N : Nat) (hN : 1000 ≤ N) (u : G_api_Unit) (keep : List Bool) (H : CutOk u keep) (v2 : G_cosignerref08_Cutted) : g_cosignerref08_Cut_J2_M N (u.fCode.length : Int) keep u v2 = some ⟨cutU u keep, atL keep u.fCode.length, 0⟩ := by
  obtain ⟨n1, n2, n3⟩ := H.n1
  have hl := H.len
  have gl : ∀ C : List G_api_Ins, g_cosignerref08_Cut_L6_I N u (u.fCode.length : Int) v2 N (atL keep (u.fCode.length + 1)) u.fClass u.fName u.fArgs u.fSlots u.fFrame C [] 0 = some ⟨⟨u.fClass, u.fName, u.fArgs, u.fSlots, u.fFrame, C, cutG (atL keep (u.fCode.length + 1)) u.fGuards u.fGuards.length⟩, atL keep u.fCode.length, 0⟩ := fun C => by
    refine (up_loop u.fGuards.length (fun n i => g_cosignerref08_Cut_L6_I N u (u.fCode.length : Int) v2 n (atL keep (u.fCode.length + 1)) u.fClass u.fName u.fArgs u.fSlots u.fFrame C (cutG (atL keep (u.fCode.length + 1)) u.fGuards i) (i : Int)) _ (fun n i hi => ?_) (fun n => ?_) N 0 (Nat.zero_le _) (by omega))
    · show g_cosignerref08_Cut_L6_M N _ _ _ _ _ _ _ _ _ _ _ _ _ = _
      unfold g_cosignerref08_Cut_L6_M g_cosignerref08_Cut_J7_M g_cosignerref08_Cut_J8_M
      have hg : u.fGuards[i]? = some u.fGuards[i] := List.getElem?_eq_getElem hi
      obtain ⟨g1, g2, g3, g4, g5⟩ := H.grd hg
      generalize u.fGuards[i] = g at *
      rw [lt_int i _ hi, ix_nat, hg]
      simp only [Option.bind_some, cond_true]
      rw [atL_ix _ _ _ g1 (by omega), atL_ix _ _ _ (by omega) (by omega), atL_ix _ _ _ g4 (by omega), cutG_succ _ _ _ hg, wr_up i (by omega)]
      simp only [Option.bind_some]
      have hlen := cutG_len (atL keep (u.fCode.length + 1)) u.fGuards i
      have hm := cnt_mono keep (i := g.fFrom.toNat) (j := g.fTo.toNat) (by omega)
      have e1 : (atL keep (u.fCode.length + 1)).getD g.fFrom.toNat 0 = (cnt keep g.fFrom.toNat : Int) := atL_get _ _ _ (by omega)
      have e2 : (atL keep (u.fCode.length + 1)).getD g.fTo.toNat 0 = (cnt keep g.fTo.toNat : Int) := atL_get _ _ _ (by omega)
      by_cases hc : (mvG (atL keep (u.fCode.length + 1)) g).fFrom < (mvG (atL keep (u.fCode.length + 1)) g).fTo
      · have hc' : (atL keep (u.fCode.length + 1)).getD g.fFrom.toNat 0 < (atL keep (u.fCode.length + 1)).getD g.fTo.toNat 0 := hc
        rw [if_pos hc, show decide ((atL keep (u.fCode.length + 1)).getD g.fFrom.toNat 0 = (atL keep (u.fCode.length + 1)).getD g.fTo.toNat 0) = false from decide_eq_false (by omega)]
        rw [show decide ((cutG (atL keep (u.fCode.length + 1)) u.fGuards i).length + [(G_api_Guard.mk ((atL keep (u.fCode.length + 1)).getD g.fFrom.toNat 0) ((atL keep (u.fCode.length + 1)).getD g.fTo.toNat 0) ((atL keep (u.fCode.length + 1)).getD g.fAt.toNat 0))].length ≤ 1048576) = true from decide_eq_true (by simp; omega)]
        rfl
      · have hc' : ¬ (atL keep (u.fCode.length + 1)).getD g.fFrom.toNat 0 < (atL keep (u.fCode.length + 1)).getD g.fTo.toNat 0 := hc
        rw [if_neg hc, show decide ((atL keep (u.fCode.length + 1)).getD g.fFrom.toNat 0 = (atL keep (u.fCode.length + 1)).getD g.fTo.toNat 0) = true from decide_eq_true (by omega)]
        rfl
    · show g_cosignerref08_Cut_L6_M N _ _ _ _ _ _ _ _ _ _ _ _ _ = _
      unfold g_cosignerref08_Cut_L6_M g_cosignerref08_Cut_J5_M
      rw [nlt_int, atL_take]; rfl
  have cl : g_cosignerref08_Cut_L9_I N (u.fCode.length : Int) keep u v2 N (atL keep (u.fCode.length + 1)) u.fClass u.fName u.fArgs u.fSlots u.fFrame [] [] 0 = some ⟨cutU u keep, atL keep u.fCode.length, 0⟩ := by
    refine (up_loop u.fCode.length (fun n i => g_cosignerref08_Cut_L9_I N (u.fCode.length : Int) keep u v2 n (atL keep (u.fCode.length + 1)) u.fClass u.fName u.fArgs u.fSlots u.fFrame (cutC (atL keep (u.fCode.length + 1)) u.fCode keep i) [] (i : Int)) _ (fun n i hi => ?_) (fun n => ?_) N 0 (Nat.zero_le _) (by omega))
    · show g_cosignerref08_Cut_L9_M N _ _ _ _ _ _ _ _ _ _ _ _ _ _ = _
      unfold g_cosignerref08_Cut_L9_M g_cosignerref08_Cut_J10_M g_cosignerref08_Cut_J12_M g_cosignerref08_Cut_J13_M g_cosignerref08_Cut_P1_M g_cosignerref08_Cut_J14_M g_cosignerref08_Cut_J11_M
      have hx : u.fCode[i]? = some u.fCode[i] := List.getElem?_eq_getElem hi
      have hk : keep[i]? = some keep[i] := List.getElem?_eq_getElem (by omega)
      have hj := fun p => H.jmp hx (p := p)
      generalize u.fCode[i] = x at *
      generalize keep[i] = k at *
      rw [lt_int i _ hi]
      simp only [show ix keep (i : Int) = some k from hk, show ix u.fCode (i : Int) = some x from hx, Option.bind_some, cond_true]
      rw [cutC_succ _ _ _ _ hk hx, wr_up i (by omega)]
      have hlen := cutC_len (atL keep (u.fCode.length + 1)) u.fCode keep i
      have hg : ∀ y : G_api_Ins, decide ((cutC (atL keep (u.fCode.length + 1)) u.fCode keep i).length + [y].length ≤ 1048576) = true := fun y => decide_eq_true (by simp; omega)
      cases k with
      | false => rfl
      | true =>
        simp only [Bool.not_true, cond_false, if_true]
        unfold mvI
        unfold jumpO at hj
        by_cases h1 : x.fOp = 24
        · have := hj x.fA (by rw [if_pos h1])
          rw [decide_eq_true h1, if_pos h1, atL_ix _ _ _ this.1 (by omega)]
          simp only [cond_true, Option.bind_some, decide_eq_false (show ¬ x.fOp = 25 by omega), decide_eq_false (show ¬ x.fOp = 32 by omega), cond_false, hg]; rfl
        · rw [decide_eq_false h1, if_neg h1]
          by_cases h2 : x.fOp = 25
          · have := hj x.fB (by rw [if_neg h1, if_pos (Or.inl h2)])
            rw [decide_eq_true h2, if_pos (Or.inl h2), atL_ix _ _ _ this.1 (by omega)]
            simp only [cond_true, cond_false, Option.bind_some, hg]; rfl
          · rw [decide_eq_false h2]
            by_cases h3 : x.fOp = 32
            · have := hj x.fB (by rw [if_neg h1, if_pos (Or.inr h3)])
              rw [decide_eq_true h3, if_pos (Or.inr h3), atL_ix _ _ _ this.1 (by omega)]
              simp only [cond_true, cond_false, Option.bind_some, hg]; rfl
            · rw [decide_eq_false h3, if_neg (by simp [h2, h3])]
              simp only [cond_false, hg]; rfl
    · show g_cosignerref08_Cut_L9_M N _ _ _ _ _ _ _ _ _ _ _ _ _ _ = _
      unfold g_cosignerref08_Cut_L9_M g_cosignerref08_Cut_J4_M
      rw [nlt_int, cutC_at H]; exact gl _
  have h3 : g_cosignerref08_Cut_J3_M N (vL keep (u.fCode.length + 1) u.fCode.length) (u.fCode.length : Int) u keep v2 (cnt keep u.fCode.length : Int) = some ⟨cutU u keep, atL keep u.fCode.length, 0⟩ := by
    unfold g_cosignerref08_Cut_J3_M
    obtain ⟨x, hx⟩ := vL_ix keep (u.fCode.length + 1) u.fCode.length u.fCode.length (Nat.lt_succ_self _)
    rw [hx, Option.bind_some, Int.toNat_natCast, vL_set _ _ _ (Nat.lt_succ_self _), vL_full]
    exact cl
  have key := up_loop u.fCode.length (fun n i => g_cosignerref08_Cut_L15_I N (u.fCode.length : Int) keep u v2 n (vL keep (u.fCode.length + 1) i) (cnt keep i : Int) (i : Int)) (some ⟨cutU u keep, atL keep u.fCode.length, 0⟩) (fun n i hi => by
    show g_cosignerref08_Cut_L15_M N _ _ _ _ _ _ _ _ = _
    unfold g_cosignerref08_Cut_L15_M g_cosignerref08_Cut_J16_M g_cosignerref08_Cut_J17_M
    have hk : keep[i]? = some keep[i] := List.getElem?_eq_getElem (by omega)
    have hc := cnt_le keep i
    obtain ⟨x, hx⟩ := vL_ix keep (u.fCode.length + 1) i i (by omega)
    generalize keep[i] = k at *
    rw [lt_int i _ hi, hx, ix_nat, hk]
    simp only [Option.bind_some, cond_true]
    rw [wr_up i (by omega), wr_up (cnt keep i) (by omega), Int.toNat_natCast, vL_set _ _ _ (by omega), cnt_succ _ _ _ hk]
    cases k <;> rfl) (fun n => by
    show g_cosignerref08_Cut_L15_M N _ _ _ _ _ _ _ _ = _
    unfold g_cosignerref08_Cut_L15_M
    rw [nlt_int]; exact h3) N 0 (Nat.zero_le _) (by omega)
  unfold g_cosignerref08_Cut_J2_M
  rw [wr_up _ (by omega), show (decide ((0 : Int) ≤ ((u.fCode.length + 1 : Nat) : Int)) && decide (((u.fCode.length + 1 : Nat) : Int) ≤ 65536)) = true by simp; omega, Int.toNat_natCast, ← vL_zero keep]
  exact key
theorem sameInts_M (N : Nat) (l : List Int) (hl : l.length < 1000000) (hN : l.length < N) : cosignerref08_SameInts_M N l l = some true := by
  unfold cosignerref08_SameInts_M g_cosignerref08_SameInts_J1_M
  simp only [decide_true, Bool.not_true, cond_false]
  exact up_loop l.length (fun n i => g_cosignerref08_SameInts_L3_I N l l n (i : Int)) (some true) (fun n i hi => by
    show g_cosignerref08_SameInts_L3_M N _ _ _ _ = _
    unfold g_cosignerref08_SameInts_L3_M g_cosignerref08_SameInts_J4_M g_cosignerref08_SameInts_J5_M
    rw [lt_int i _ hi, ix_nat, List.getElem?_eq_getElem hi]
    simp only [Option.bind_some, cond_true, decide_true, Bool.not_true, cond_false]
    rw [wr_up i (by omega)]) (fun n => by
    show g_cosignerref08_SameInts_L3_M N _ _ _ _ = _
    unfold g_cosignerref08_SameInts_L3_M
    rw [nlt_int]; rfl) N 0 (Nat.zero_le _) (by omega)
theorem sameUnits_M (N : Nat) (u : G_api_Unit) (h1 : u.fCode.length < 1000000) (h2 : u.fGuards.length < 1000000) (hN1 : u.fCode.length < N) (hN2 : u.fGuards.length < N) : cosignerref08_SameUnits_M N u u = some true := by
  unfold cosignerref08_SameUnits_M g_cosignerref08_SameUnits_P6_M g_cosignerref08_SameUnits_P5_M g_cosignerref08_SameUnits_P4_M g_cosignerref08_SameUnits_P3_M g_cosignerref08_SameUnits_P2_M g_cosignerref08_SameUnits_P1_M g_cosignerref08_SameUnits_J1_M
  simp only [decide_true, Bool.not_true, cond_false]
  have hG : g_cosignerref08_SameUnits_L4_I N u u N 0 = some true := up_loop u.fGuards.length (fun n i => g_cosignerref08_SameUnits_L4_I N u u n (i : Int)) (some true) (fun n i hi => by
    show g_cosignerref08_SameUnits_L4_M N _ _ _ _ = _
    unfold g_cosignerref08_SameUnits_L4_M g_cosignerref08_SameUnits_J5_M g_cosignerref08_SameUnits_J6_M
    rw [lt_int i _ hi, ix_nat, List.getElem?_eq_getElem hi]
    simp only [Option.bind_some, cond_true, decide_true, Bool.and_self, bne_self_eq_false, cond_false]
    rw [wr_up i (by omega)]) (fun n => by
    show g_cosignerref08_SameUnits_L4_M N _ _ _ _ = _
    unfold g_cosignerref08_SameUnits_L4_M
    rw [nlt_int]; rfl) N 0 (Nat.zero_le _) (by omega)
  exact up_loop u.fCode.length (fun n i => g_cosignerref08_SameUnits_L7_I N u u n (i : Int)) (some true) (fun n i hi => by
    show g_cosignerref08_SameUnits_L7_M N _ _ _ _ = _
    unfold g_cosignerref08_SameUnits_L7_M g_cosignerref08_SameUnits_J8_M g_cosignerref08_SameUnits_J9_M
    rw [lt_int i _ hi, ix_nat, List.getElem?_eq_getElem hi]
    simp only [Option.bind_some, cond_true, decide_true, Bool.and_self, bne_self_eq_false, cond_false]
    rw [wr_up i (by omega)]) (fun n => by
    show g_cosignerref08_SameUnits_L7_M N _ _ _ _ = _
    unfold g_cosignerref08_SameUnits_L7_M
    rw [nlt_int]; exact hG) N 0 (Nat.zero_le _) (by omega)
def cut0 : G_api_Unit := ⟨⟨⟨[]⟩⟩, ⟨⟨[]⟩⟩, 0, 0, 0, [], []⟩
def cutV (u : G_api_Unit) (keep : List Bool) : G_api_Unit × List Int × Int :=
  if ¬ (plainV u = true ∧ keep.length = u.fCode.length) then (cut0, [], 1) else if keep.getD (u.fCode.length - 1) false = false then (cut0, [], 2) else (cutU u keep, atL keep u.fCode.length, 0)
theorem cut_M (N : Nat) (hN : 1000 ≤ N) (u : G_api_Unit) (keep : List Bool) : core_Cut_M N u keep = some (cutV u keep) := by
  unfold core_Cut_M g_core_Cut_P1_M g_core_Cut_J1_M cutV
  rw [plain_M N hN]
  simp only [Option.bind_some]
  cases hp : plainV u with
  | false => rfl
  | true =>
    by_cases hl : keep.length = u.fCode.length
    · have H : CutOk u keep := ⟨hp, hl⟩
      obtain ⟨n1, n2, n3⟩ := H.n1
      rw [if_neg (by simp [hl]), show decide ((keep.length : Int) = (u.fCode.length : Int)) = true from decide_eq_true (by omega)]
      simp only [Bool.not_true, cond_false]
      rw [wrapQ_in (by omega) (by omega), show (keep.length : Int) - 1 = ((u.fCode.length - 1 : Nat) : Int) by omega, ix_nat, List.getD_eq_getElem?_getD]
      have hi : u.fCode.length - 1 < keep.length := by omega
      rw [List.getElem?_eq_getElem hi]
      simp only [Option.bind_some, Option.getD_some]
      cases keep[u.fCode.length - 1] with
      | false => rfl
      | true => simp only [Bool.not_true, cond_false]; exact cutCore N hN u keep H _
    · rw [if_pos (by simp [hl]), show decide ((keep.length : Int) = (u.fCode.length : Int)) = false from decide_eq_false (by omega)]; rfl
theorem cutR_M (N : Nat) (hN : 1000 ≤ N) (u : G_api_Unit) (keep : List Bool) : cosignerref08_Cut_M N u keep = some ⟨(cutV u keep).1, (cutV u keep).2.1, (cutV u keep).2.2⟩ := by
  unfold cosignerref08_Cut_M g_cosignerref08_Cut_P2_M g_cosignerref08_Cut_J1_M cutV
  rw [plainR_M N hN]
  simp only [Option.bind_some]
  cases hp : plainV u with
  | false => rfl
  | true =>
    by_cases hl : keep.length = u.fCode.length
    · have H : CutOk u keep := ⟨hp, hl⟩
      obtain ⟨n1, n2, n3⟩ := H.n1
      rw [if_neg (by simp [hl]), show decide ((keep.length : Int) = (u.fCode.length : Int)) = true from decide_eq_true (by omega)]
      simp only [Bool.not_true, cond_false]
      rw [wrapQ_in (by omega) (by omega), show (u.fCode.length : Int) - 1 = ((u.fCode.length - 1 : Nat) : Int) by omega, ix_nat, List.getD_eq_getElem?_getD]
      have hi : u.fCode.length - 1 < keep.length := by omega
      rw [List.getElem?_eq_getElem hi]
      simp only [Option.bind_some, Option.getD_some]
      cases keep[u.fCode.length - 1] with
      | false => rfl
      | true => simp only [Bool.not_true, cond_false]; exact cutRef N hN u keep H _
    · rw [if_pos (by simp [hl]), show decide ((keep.length : Int) = (u.fCode.length : Int)) = false from decide_eq_false (by omega)]; rfl
theorem cutV_small (u : G_api_Unit) (keep : List Bool) : (cutV u keep).1.fCode.length ≤ 600 ∧ (cutV u keep).1.fGuards.length ≤ 40 ∧ (cutV u keep).2.1.length ≤ 600 := by
  unfold cutV
  split
  · exact ⟨by decide, by decide, by decide⟩
  · rename_i h
    have h := Decidable.not_not.1 h
    have H : CutOk u keep := ⟨h.1, h.2⟩
    obtain ⟨n1, n2, n3⟩ := H.n1
    split
    · exact ⟨by decide, by decide, by decide⟩
    · exact ⟨Nat.le_trans (cutC_len _ _ _ _) n2, Nat.le_trans (cutG_len _ _ _) n3, by rw [atL_len]; exact n2⟩
end
end Go.Ve.T
