/- Part 13: MADE BY A PROGRAM (gen_litn.py): the functions as the evaluator takes them, and that they are what the translation says. No condition. And what follows it. -/
import Derived.Test.YteeibihhdldjfaaGreatDoorVeL
import Derived.Test.YteeibihhdldjfaaGreatDoorProg
import Derived.KernelRfl
set_option linter.unusedVariables false
set_option linter.unusedSimpArgs false
namespace Go.Ve.T
open Go.Ve Go.Proofs
noncomputable abbrev PP : Program := Tryz.prog
theorem bt : PP.follows .mixedOrders = true := by kernel_rfl
abbrev fc (f : Nat) : Value := .func (.func f) #[] #[]
abbrev bs (l : List UInt8) : Value := .string ⟨⟨l⟩⟩
abbrev o (d : Pos) (p : Prim) (a : List dC) : aX := ⟨some d, .aA p, a, none⟩
abbrev m (d : Pos) (x : dC) : aX := ⟨some d, .aA .move, [x], none⟩
def s0 : Pos := .xH
def s1 : Pos := .xO s0
def s2 : Pos := .xI s0
def s3 : Pos := .xO s1
def s4 : Pos := .xI s1
def s5 : Pos := .xO s2
def s6 : Pos := .xI s2
def s7 : Pos := .xO s3
def s8 : Pos := .xI s3
def s9 : Pos := .xO s4
def jr : Pos := .xI s4
def wX : Pos := .xO s5
def oL : Pos := .xI s5
def sA : Pos := .xO s6
def pS : Pos := .xI s6
def sB : Pos := .xO s7
def oG : Pos := .xI s7
def sC : Pos := .xO s8
def sD : Pos := .xI s8
def sE : Pos := .xO s9
def sF : Pos := .xI s9
def sG : Pos := .xO jr
def sH : Pos := .xI jr
def oJ : Pos := .xO wX
def sI : Pos := .xI wX
def sJ : Pos := .xO oL
def sK : Pos := .xI oL
def sL : Pos := .xO sA
def wY : Pos := .xI sA
def wZ : Pos := .xO pS
def lH : Pos := .xI pS
def w4 : Pos := .xO sB
def w7 : Pos := .xI sB
def EY : Pos := .xO oG
def EZ : Pos := .xI oG
def x8 : Pos := .xO sC
def E0 : Pos := .xI sC
def E4 : Pos := .xO sD
def E5 : Pos := .xI sD
def E6 : Pos := .xO sE
def E7 : Pos := .xI sE
def E8 : Pos := .xO sF
def xZ : Pos := .xI sF
def E9 : Pos := .xO sG
def Fa : Pos := .xI sG
def Fb : Pos := .xO sH
def Fc : Pos := .xI sH
def rl : Pos := .xO oJ
def tG : Pos := .xI oJ
def nD : Pos := .xO sI
def Fe : Pos := .xI sI
def Ff : Pos := .xO sJ
def Fg : Pos := .xI sJ
def Fh : Pos := .xO sK
def Fi : Pos := .xI sK
def UD : Pos := .xO sL
def UE : Pos := .xI sL
abbrev PV : FuncId := 9
abbrev Ii : FuncId := 12
abbrev Hv : FuncId := 18
abbrev HO : FuncId := 28
abbrev Cu : FuncId := 30
abbrev G7 : FuncId := 32
abbrev Cw : FuncId := 38
abbrev HS : FuncId := 40
abbrev HV : FuncId := 42
abbrev HL : FuncId := 43
abbrev HZ : FuncId := 44
abbrev vD : FuncId := 53
abbrev Hm : FuncId := 60
abbrev Hq : FuncId := 61
abbrev Cv : FuncId := 62
abbrev pK : FuncId := 75
abbrev HM : FuncId := 78
abbrev CJ : FuncId := 79
abbrev rf : FuncId := 84
abbrev x7 : FuncId := 86
abbrev vC : FuncId := 87
abbrev HK : FuncId := 88
abbrev G6 : FuncId := 90
abbrev Ch : FuncId := 93
abbrev GF : FuncId := 100
abbrev Cd : FuncId := 101
abbrev Cj : FuncId := 102
abbrev GS : FuncId := 103
abbrev Ck : FuncId := 104
abbrev Pn : FuncId := 107
abbrev OY : FuncId := 120
abbrev Ci : FuncId := 121
abbrev G5 : FuncId := 122
abbrev Cg : FuncId := 123
abbrev Ce : FuncId := 124
abbrev GD : FuncId := 134
noncomputable def aF (k : Nat) : fU := (bN PP k).getD ⟨0, [], .skip, false⟩
theorem dI {k : Nat} (h : (bN PP k).isSome = true) : bN PP k = some (aF k) := by
 unfold aF
 cases hc : bN PP k with
 | none => rw [hc] at h; cases h
 | some x => rfl
theorem e3 : bN PP 3 = some (aF 3) := dI (by kernel_rfl)
theorem e4 : bN PP 4 = some (aF 4) := dI (by kernel_rfl)
theorem e5 : bN PP 5 = some (aF 5) := dI (by kernel_rfl)
theorem e6 : bN PP 6 = some (aF 6) := dI (by kernel_rfl)
theorem e7 : bN PP 7 = some (aF 7) := dI (by kernel_rfl)
theorem e8 : bN PP 8 = some (aF 8) := dI (by kernel_rfl)
theorem e9 : bN PP 9 = some (aF 9) := dI (by kernel_rfl)
theorem EX : bN PP 10 = some (aF 10) := dI (by kernel_rfl)
theorem Yr : bN PP 18 = some (aF 18) := dI (by kernel_rfl)
theorem Y8 : bN PP 28 = some (aF 28) := dI (by kernel_rfl)
theorem Yb : bN PP 30 = some (aF 30) := dI (by kernel_rfl)
def tA : fU := ⟨33,[.tmp s4],(.seq (.ops [o s2 (.box 25) [.t s0],m s4 (.c cP)]) (.seq (.seq (.ops [o s7 (.bB 7) [.t s2],⟨some s8,(.call 53),[.t s7],none⟩,o s9 (.eL) [.t s8],m jr (.t s9),⟨some wX,(.aA (.move)),[.t s1],some (jr,false)⟩,⟨some oL,(.aA (.fieldAddr 5)),[.t s2],some (jr,false)⟩,⟨some sA,(.aA (.aB)),[.t oL],some (jr,false)⟩,⟨some pS,(.aA (.cW)),[.t sA],some (jr,false)⟩,⟨some sB,(.aA (.aH .sub)),[.t pS,.c (vi 1)],some (jr,false)⟩,⟨some oG,(.call 75),[.t wX,.c (vi 0),.t sB],some (jr,false)⟩,⟨some sC,(.aA (.eL)),[.t oG],some (jr,false)⟩,o sD (.pick) [.t jr,.c (.bool true),.t sC]]) (.cond (.t sD) (.seq (.ops [m s4 (.c cP)]) .ret) .skip)) (.seq (.ops [o s5 (.alloc 28 [cP]) []]) (.seq (.seq (.ops [o sE (.bB 7) [.t s2],m sF (.t s1),⟨some sG,(.call 86),[.t sE,.t sF],none⟩]) (.block 0 (.lY (.t sG) [sH,oJ] (.ops [m s6 (.t sH)]) (.block 1 (.seq (.ops [o sI (.aB) [.t s5],m sJ (.t s6),⟨some sK,(.call 90),[.t sI,.t sJ],none⟩,o sL (.eL) [.t sK]]) (.cond (.t sL) (.ops [o wY (.aB) [.t s5],m wZ (.t s6),o lH (.buildSlice 3 1 [(vi 0)] [(0,1)]) [.t wZ],o w4 (.append 3 1 [(vi 0)]) [.t wY,.t lH],⟨none,(.aA (.store 1)),[.t s5,.t w4],none⟩]) .skip)))))) (.seq (.ops [o w7 (.aB) [.t s5],m s4 (.t w7)]) .ret))))),false⟩
theorem X9 : bN PP 32 = some tA := by kernel_rfl
theorem Yi : bN PP 38 = some (aF 38) := dI (by kernel_rfl)
theorem Za : bN PP 40 = some (aF 40) := dI (by kernel_rfl)
theorem Zc : bN PP 42 = some (aF 42) := dI (by kernel_rfl)
theorem YZ : bN PP 43 = some (aF 43) := dI (by kernel_rfl)
theorem Ze : bN PP 44 = some (aF 44) := dI (by kernel_rfl)
theorem X2 : bN PP 53 = some (aF 53) := dI (by kernel_rfl)
def yd : fU := ⟨57,[.tmp s6],(.seq (.ops [o s3 (.box 25) [.t s0],o s4 (.box 3) [.t s1],o s5 (.box 101) [.t s2],m s6 (.c (.map none))]) (.seq (.ops [o sA (.mkMap) [],o s7 (.alloc 102 [(.map none)]) [],⟨none,(.aA (.store 1)),[.t s7,.t sA],none⟩]) (.seq (.seq (.ops [o pS (.bB 7) [.t s3],o sB (.aB) [.t s4],⟨some oG,(.call 86),[.t pS,.t sB],none⟩]) (.block 0 (.lY (.t oG) [sC,sD] (.seq (.ops [m s8 (.t sC)]) (.ops [m s9 (.t sD)])) (.block 1 (.seq (.ops [o sE (.aB) [.t s5],m sF (.t s8),o sG (.di 1) [.t sE,.t sF],o sH (.aB) [.t sG],o oJ (.x .yb) [.t sH]]) (.block 2 (.loop (.seq (.ops [o sI (.x .tB) [.t oJ],o sJ (.extract 0) [.t sI]]) (.seq (.cond (.t sJ) .skip (.exit 2)) (.block 3 (.seq (.ops [o sK (.x .entry) [.t oJ],o sL (.extract 0) [.t sK],m jr (.t sL)]) (.seq (.ops [m wY (.t s9),o wZ (.aH .eql) [.t wY,.c (vi 2)],m lH (.t wZ),⟨some w4,(.aA (.move)),[.t jr],some (lH,false)⟩,⟨some w7,(.aA (.fieldAddr 5)),[.t s3],some (lH,false)⟩,⟨some EY,(.aA (.aB)),[.t w7],some (lH,false)⟩,⟨some EZ,(.aA (.aB)),[.t s4],some (lH,false)⟩,⟨some x8,(.aA (.di 4)),[.t EY,.t EZ],some (lH,false)⟩,⟨some E0,(.aA (.bB 4)),[.t x8],some (lH,false)⟩,⟨some E4,(.call 38),[.t E0],some (lH,false)⟩,⟨some E5,(.aA (.aH .neq)),[.t w4,.t E4],some (lH,false)⟩,o E6 (.pick) [.t lH,.c (.bool true),.t E5]]) (.cond (.t E6) (.ops [o E7 (.aB) [.t s7],m E8 (.t jr),⟨none,(.aA (.nB 0)),[.t E7,.t E8,.c (.bool true)],none⟩]) .skip))))))))))))) (.seq (.seq (.ops [o xZ (.fieldAddr 5) [.t s3],o E9 (.aB) [.t xZ],o Fa (.aB) [.t s4],o Fb (.di 4) [.t E9,.t Fa],o Fc (.bB 4) [.t Fb],⟨some rl,(.call 30),[.t Fc],none⟩,o tG (.cW) [.t rl],m nD (.c (vi 0))]) (.block 4 (.loop (.seq (.ops [o Fe (.aH .lss) [.t nD,.t tG]]) (.seq (.cond (.t Fe) .skip (.exit 4)) (.seq (.block 5 (.seq (.ops [o Ff (.di 1) [.t rl,.t nD],o Fg (.aB) [.t Ff],m oL (.t Fg)]) (.ops [o Fh (.aB) [.t s7],m Fi (.t oL),⟨none,(.aA (.nB 0)),[.t Fh,.t Fi,.c (.bool true)],none⟩]))) (.ops [o UD (.aH .add) [.t nD,.c (vi 1)],m nD (.t UD)]))))))) (.seq (.ops [o UE (.aB) [.t s7],m s6 (.t UE)]) .ret))))),true⟩
theorem Yl : bN PP 60 = some yd := by kernel_rfl
theorem Yp : bN PP 61 = some (aF 61) := dI (by kernel_rfl)
theorem Yg : bN PP 62 = some (aF 62) := dI (by kernel_rfl)
theorem XA : bN PP 75 = some (aF 75) := dI (by kernel_rfl)
def yo : fU := ⟨55,[.cell s4 none],(.seq (.ops [o s2 (.box 25) [.t s0],o s3 (.box 100) [.t s1],o s4 (.alloc 39 [cP]) []]) (.seq (.ops [o jr (.fieldAddr 5) [.t s2],o wX (.aB) [.t jr],o oL (.cW) [.t wX],o sA (.mkSlice 4 1 [(.bool false)]) [.t oL,.t oL],o s5 (.alloc 39 [cP]) [],⟨none,(.aA (.store 1)),[.t s5,.t sA],none⟩]) (.seq (.ops [o pS (.buildSlice 3 1 [(vi 0)] [(0,1)]) [.c (vi 0)],o s6 (.alloc 28 [cP]) [],⟨none,(.aA (.store 1)),[.t s6,.t pS],none⟩]) (.seq (.ops [o sB (.aB) [.t s5],o oG (.di 1) [.t sB,.c (vi 0)],⟨none,(.aA (.store 1)),[.t oG,.c (.bool true)],none⟩]) (.seq (.block 0 (.loop (.seq (.seq (.ops [o sC (.aB) [.t s6],o sD (.cW) [.t sC],o sE (.aH .gtr) [.t sD,.c (vi 0)]]) (.cond (.t sE) .skip (.exit 0))) (.block 1 (.seq (.ops [o sF (.aB) [.t s6],o sG (.aB) [.t s6],o sH (.cW) [.t sG],o oJ (.aH .sub) [.t sH,.c (vi 1)],o sI (.di 1) [.t sF,.t oJ],o sJ (.aB) [.t sI],o s7 (.alloc 3 [(vi 0)]) [],⟨none,(.aA (.store 1)),[.t s7,.t sJ],none⟩]) (.seq (.ops [o sK (.aB) [.t s6],o sL (.aB) [.t s6],o wY (.cW) [.t sL],o wZ (.aH .sub) [.t wY,.c (vi 1)],o lH (.slice 1 false true false) [.t sK,.t wZ],⟨none,(.aA (.store 1)),[.t s6,.t lH],none⟩]) (.seq (.ops [o w4 (.bB 7) [.t s2],o w7 (.aB) [.t s7],⟨some EY,(.call 86),[.t w4,.t w7],none⟩]) (.block 2 (.lY (.t EY) [EZ,x8] (.seq (.ops [m s8 (.t EZ)]) (.ops [m s9 (.t x8)])) (.block 3 (.seq (.seq (.ops [o E0 (.aB) [.t s3],o E4 (.aB) [.t s7],m E5 (.t s8),m E6 (.t s9),⟨some E7,.dyn,[.t E0,.t E4,.t E5,.t E6],none⟩,o E8 (.eL) [.t E7]]) (.cond (.t E8) (.seq (.ops [⟨none,(.aA (.store 1)),[.t s4,.c cP],none⟩]) .ret) .skip)) (.seq (.ops [o xZ (.aB) [.t s5],m E9 (.t s8),o Fa (.di 1) [.t xZ,.t E9],o Fb (.aB) [.t Fa],o Fc (.eL) [.t Fb]]) (.cond (.t Fc) (.seq (.ops [o rl (.aB) [.t s5],m tG (.t s8),o nD (.di 1) [.t rl,.t tG],⟨none,(.aA (.store 1)),[.t nD,.c (.bool true)],none⟩]) (.ops [o Fe (.aB) [.t s6],m Ff (.t s8),o Fg (.buildSlice 3 1 [(vi 0)] [(0,1)]) [.t Ff],o Fh (.append 3 1 [(vi 0)]) [.t Fe,.t Fg],⟨none,(.aA (.store 1)),[.t s6,.t Fh],none⟩])) .skip))))))))))))) (.seq (.ops [o Fi (.aB) [.t s5],⟨none,(.aA (.store 1)),[.t s4,.t Fi],none⟩]) .ret)))))),false⟩
theorem Y2 : bN PP 78 = some yo := by kernel_rfl
theorem Y6 : bN PP 79 = some (aF 79) := dI (by kernel_rfl)
theorem XG : bN PP 84 = some (aF 84) := dI (by kernel_rfl)
theorem XU : bN PP 86 = some (aF 86) := dI (by kernel_rfl)
theorem XI : bN PP 87 = some (aF 87) := dI (by kernel_rfl)
theorem YX : bN PP 88 = some (aF 88) := dI (by kernel_rfl)
theorem X6 : bN PP 90 = some (aF 90) := dI (by kernel_rfl)
theorem XQ : bN PP 93 = some (aF 93) := dI (by kernel_rfl)
theorem XE : bN PP 100 = some (aF 100) := dI (by kernel_rfl)
theorem XK : bN PP 101 = some (aF 101) := dI (by kernel_rfl)
theorem XW : bN PP 102 = some (aF 102) := dI (by kernel_rfl)
theorem X0 : bN PP 103 = some (aF 103) := dI (by kernel_rfl)
theorem XY : bN PP 104 = some (aF 104) := dI (by kernel_rfl)
theorem ad8 : bN PP 120 = some (aF 120) := dI (by kernel_rfl)
theorem XS : bN PP 121 = some (aF 121) := dI (by kernel_rfl)
theorem X4 : bN PP 122 = some (aF 122) := dI (by kernel_rfl)
theorem XO : bN PP 123 = some (aF 123) := dI (by kernel_rfl)
theorem XM : bN PP 124 = some (aF 124) := dI (by kernel_rfl)
theorem XC : bN PP 134 = some (aF 134) := dI (by kernel_rfl)
end Go.Ve.T
namespace Go.Ve
open Go.RowKit
noncomputable section
def Prim.EA : Prim → Bool
 | .move => true
 | _ => false
theorem Prim.adz {p : Prim} (h : p.EA = true) : p = .move := by
 unfold Prim.EA at h
 split at h
 · rfl
 · cases h
def EB (P : Program) (w0 : World) (act : gZ) (vs : List Value) (E K : Value → W) : W := match act with
 | .aA p => (match p.EA, vs with
  | true, [x] => K x
  | _, vs => pr p vs K)
 | .call f => cl P w0 f vs E K
 | .dyn => dy P w0 vs E K
 | .panic => pn vs E
 | _ => fun _ => False
def wP (P : Program) (w0 : World) (o : aX) (σ : Sl) (E K : Value → W) : W := match o.guard with
 | none => EB P w0 o.act (o.args.map (dX σ)) E K
 | some (g, want) => gd (σ g) want (fun k => EB P w0 o.act (o.args.map (dX σ)) E k) K
def EC (P : Program) (w0 : World) : List aX → Sl → (Value → W) → (Sl → W) → W
 | [], σ, _, N => N σ
 | o :: l, σ, E, N => wP P w0 o σ E fun v => EC P w0 l (σ.ey o.dst v) E N
def ED (p : Prim) (vs : List Value) (v : Value) (K : W) : W := bif p.makes then ckm p vs v K else ck p vs v K
def EE (o : aX) (σ : Sl) (K : W) : W := match o.act, o.dst with
 | .aA p, some q => (match o.guard with
  | none => ED p (o.args.map (dX σ)) (σ q) K
  | some (g, want) => gk (σ g) want (fun k => ED p (o.args.map (dX σ)) (σ q) k) K)
 | _, _ => fun _ => False
def zT (P : Program) (w0 : World) : List hO → Sl → (Value → W) → (Sl → W) → W
 | [], σ, _, N => N σ
 | .op _ o :: l, σ, E, N => wP P w0 o σ E fun v => zT P w0 l (σ.ey o.dst v) E N
 | .kL _ o :: l, σ, E, N => EE o σ (zT P w0 l σ E N)
def zU : List Pos → Type
 | [] => Unit
 | [_] => Value
 | _ :: q :: ps => Value × zU (q :: ps)
def jR : (ps : List Pos) → Sl → zU ps
 | [], _ => ()
 | [p], σ => σ p
 | p :: q :: ps, σ => (σ p, jR (q :: ps) σ)
def qG : (ps : List Pos) → Sl → zU ps → Sl
 | [], σ, _ => σ
 | [p], σ, a => σ.up p a
 | p :: q :: ps, σ, a => (qG (q :: ps) σ a.2).up p a.1
def nl : cA → Nat
 | .seq a b => nl a + nl b
 | .cond _ a b => nl a + nl b
 | .block _ c => nl c
 | .loop c => nl c + 1
 | _ => 0
def cF (P : Program) (w0 : World) : cA → List (List Pos) → Sl → (Value → W) → (AX → Sl → W) → W
 | .skip, _, σ, _, X => X .normal σ
 | .ops l, _, σ, E, X => EC P w0 l σ E (X .normal)
 | .draw l, _, σ, E, X => zT P w0 l σ E (X .normal)
 | .seq a b, L, σ, E, X => cF P w0 a L σ E fun x σ => match x with
  | .normal => cF P w0 b (L.drop (nl a)) σ E X
  | x => X x σ
 | .cond c a b, L, σ, E, X => br (dX σ c) (cF P w0 a L σ E X) (cF P w0 b (L.drop (nl a)) σ E X)
 | .block id c, L, σ, E, X => cF P w0 c L σ E fun x σ => match x with
  | .exit j => bif Nat.beq j id then X .normal σ else X (.exit j) σ
  | x => X x σ
 | .loop c, L, σ, E, X => (match L with
  | ps :: L => LP (α := zU ps) (fun k a => cF P w0 c L (qG ps σ a) E fun x σ => match x with
   | .normal => k (jR ps σ)
   | x => X x σ) (jR ps σ)
  | [] => fun _ => False)
 | .lY _ _ _ _, _, _, _, _ => fun _ => False
 | .exit id, _, σ, _, X => X (.exit id) σ
 | .ret, _, σ, _, X => X .ret σ
def cf (D : Nat) (p : Pos) : Bool := D.testBit p.un
def zV (D : Nat) (p : Pos) : Nat := D ^^^ (D &&& (1 <<< p.un))
def LJ (D : Nat) : Option Pos → Nat
 | none => D
 | some p => zV D p
def ph (D : Nat) : Option Pos → Nat
 | none => D
 | some p => D ||| (1 <<< p.un)
def je (D : Nat) : List Pos → Nat
 | [] => D
 | p :: ps => je (zV D p) ps
def agree (D : Nat) (σ τ : Sl) : Prop := ∀ p, cf D p = false → σ p = τ p
theorem T1 (p q : Pos) : (1 <<< p.un).testBit q.un = decide (q = p) := by
 rw [Nat.one_shiftLeft, Nat.testBit_two_pow]
 exact decide_eq_decide.2 ⟨fun e => (Pos.rm e).symm, fun e => by rw [e]⟩
theorem EF (A B : Nat) (p : Pos) : cf (A ||| B) p = (cf A p || cf B p) := Nat.testBit_or ..
theorem T2 (D : Nat) (p q : Pos) : cf (zV D p) q = (cf D q && !decide (q = p)) := by
 unfold cf zV
 rw [Nat.testBit_xor, Nat.testBit_and, T1]
 cases D.testBit q.un <;> cases decide (q = p) <;> rfl
theorem wQ (D : Nat) (p q : Pos) : cf (ph D (some p)) q = (cf D q || decide (q = p)) := by
 unfold cf ph
 rw [Nat.testBit_or, T1]
theorem T3 {q : Pos} : ∀ {ps : List Pos} {D : Nat}, cf (je D ps) q = (cf D q && !decide (q ∈ ps))
 | [], D => by simp [je]
 | p :: ps, D => by
  rw [je, T3, T2]
  by_cases e : q = p <;> simp [e]
theorem agree.or {A B : Nat} {σ τ : Sl} (h : agree A σ τ) : agree (A ||| B) σ τ := fun p hp => h p (by rw [EF, Bool.or_eq_false_iff] at hp; exact hp.1)
theorem agree.or' {A B : Nat} {σ τ : Sl} (h : agree B σ τ) : agree (A ||| B) σ τ := fun p hp => h p (by rw [EF, Bool.or_eq_false_iff] at hp; exact hp.2)
theorem Sl.sv (σ : Sl) (p q : Pos) (v : Value) : σ.up p v q = if q = p then v else σ q := by
 unfold Sl.up
 by_cases e : q = p
 · rw [if_pos e, Pos.beq_iff.2 e.symm]; rfl
 · rw [if_neg e]
   cases h : p.beq q with
   | false => rfl
   | true => exact absurd (Pos.beq_iff.1 h).symm e
theorem agree.up {D : Nat} {σ τ : Sl} (h : agree D σ τ) : ∀ (d : Option Pos) (v : Value), agree (LJ D d) (σ.ey d v) (τ.ey d v)
 | none, _ => h
 | some p, v => fun q hq => by
  show σ.up p v q = τ.up p v q
  rw [Sl.sv, Sl.sv]
  by_cases e : q = p
  · rw [if_pos e, if_pos e]
  · rw [if_neg e, if_neg e]
    refine h q ?_
    have hq : cf (zV D p) q = false := hq
    rw [T2] at hq
    simpa [e] using hq
structure Out where
 n : Option Nat
 r : Option Nat
 x : List (Nat × Nat)
def jO : Option Nat → Option Nat → Option Nat
 | none, b => b
 | a, none => a
 | some a, some b => some (a ||| b)
def wR (D : Nat) : dC → Bool
 | .t p => !cf D p
 | .c _ => true
def pk (D : Nat) (o : aX) : Bool := o.args.all (wR D) && (match o.guard with
 | none => true
 | some (g, _) => !cf D g)
def zW : List aX → Nat → Option Nat
 | [], D => some D
 | o :: l, D => bif pk D o then zW l (LJ D o.dst) else none
def uJ : List hO → Nat → Option Nat
 | [], D => some D
 | .op _ o :: l, D => bif pk D o then uJ l (LJ D o.dst) else none
 | .kL _ o :: l, D => bif pk D o && (match o.dst with
  | none => true
  | some q => !cf D q) then uJ l D else none
def sw : List aX → Nat → Nat
 | [], D => D
 | o :: l, D => sw l (ph D o.dst)
def nY : List hO → Nat → Nat
 | [], D => D
 | .op _ o :: l, D => nY l (ph D o.dst)
 | .kL _ _ :: l, D => nY l D
def wr : cA → Nat → Nat
 | .ops l, D => sw l D
 | .draw l, D => nY l D
 | .seq a b, D => wr b (wr a D)
 | .cond _ a b, D => wr b (wr a D)
 | .block _ c, D => wr c D
 | .loop c, D => wr c D
 | _, D => D
def qH (id : Nat) : List (Nat × Nat) → Option Nat
 | [] => none
 | (j, D) :: l => bif Nat.beq j id then jO (some D) (qH id l) else qH id l
def wS (id : Nat) : List (Nat × Nat) → List (Nat × Nat)
 | [] => []
 | (j, D) :: l => bif Nat.beq j id then wS id l else (j, D) :: wS id l
def Out.T4 : Option Nat → Option Out
 | none => none
 | some D => some ⟨some D, none, []⟩
def adA (ra : Out) (rb : Option Out) : Option Out := match rb with
 | none => none
 | some rb => some ⟨rb.n, jO ra.r rb.r, ra.x ++ rb.x⟩
def T5 : Option Out → Option Out → Option Out
 | some ra, some rb => some ⟨jO ra.n rb.n, jO ra.r rb.r, ra.x ++ rb.x⟩
 | _, _ => none
def adB (id : Nat) : Option Out → Option Out
 | none => none
 | some r => some ⟨jO r.n (qH id r.x), r.r, wS id r.x⟩
def qI (D : Nat) : List Pos → Bool
 | [] => true
 | p :: ps => !cf D p && qI D ps
def wT (D : Nat) : List Pos → Bool
 | [] => true
 | p :: ps => cf D p && wT D ps
def EG (ps : List Pos) (D0 : Nat) : Option Out → Option Out
 | none => none
 | some r => (match r.n with
  | none => some ⟨none, r.r, r.x⟩
  | some D1 => bif qI D1 ps && Nat.beq (D1 ||| D0) D0 then some ⟨none, r.r, r.x⟩ else none)
def gw : cA → List (List Pos) → Nat → Option Out
 | .skip, _, D => some ⟨some D, none, []⟩
 | .ops l, _, D => Out.T4 (zW l D)
 | .draw l, _, D => Out.T4 (uJ l D)
 | .seq a b, L, D => (match gw a L D with
  | none => none
  | some ra => (match ra.n with
   | none => some ra
   | some D1 => adA ra (gw b (L.drop (nl a)) D1)))
 | .cond c a b, L, D => bif wR D c then T5 (gw a L D) (gw b (L.drop (nl a)) D) else none
 | .block id c, L, D => adB id (gw c L D)
 | .loop c, L, D => (match L with
  | [] => none
  | ps :: L => bif qI D ps && wT (wr c 0) ps then EG ps (D ||| je (wr c 0) ps) (gw c L (D ||| je (wr c 0) ps)) else none)
 | .exit id, _, D => some ⟨none, none, [(id, D)]⟩
 | .ret, _, D => some ⟨none, some D, []⟩
 | .lY _ _ _ _, _, _ => none
def Out.at (r : Out) (x : AX) (D : Nat) : Prop := match x with
 | .normal => r.n = some D
 | .ret => r.r = some D
 | .exit id => (id, D) ∈ r.x
 | .az _ => False
theorem zX {a b : Option Nat} {A : Nat} (h : a = some A) : ∃ B, jO a b = some (A ||| B) ∧ (b = none → B = 0) := by
 subst h
 cases b with
 | none => exact ⟨0, by simp [jO], fun _ => rfl⟩
 | some b => exact ⟨b, rfl, fun h => by cases h⟩
theorem zY {a b : Option Nat} {B : Nat} (h : b = some B) : ∃ A, jO a b = some (A ||| B) := by
 subst h
 cases a with
 | none => exact ⟨0, by simp [jO]⟩
 | some a => exact ⟨a, rfl⟩
theorem EH {p : Pos} : ∀ {l : List aX} {D : Nat}, cf (sw l D) p = (cf D p || cf (sw l 0) p)
 | [], D => by simp [sw, cf]
 | o :: l, D => by
  rw [sw, sw, EH, EH (D := ph 0 o.dst), ← Bool.or_assoc]
  congr 1
  cases o.dst with
  | none => simp [ph, cf]
  | some q => rw [wQ, wQ]; simp [cf]
theorem zZ {p : Pos} : ∀ {l : List hO} {D : Nat}, cf (nY l D) p = (cf D p || cf (nY l 0) p)
 | [], D => by simp [nY, cf]
 | .kL _ _ :: l, D => by rw [nY, nY, zZ]
 | .op _ o :: l, D => by
  rw [nY, nY, zZ, zZ (D := ph 0 o.dst), ← Bool.or_assoc]
  congr 1
  cases o.dst with
  | none => simp [ph, cf]
  | some q => rw [wQ, wQ]; simp [cf]
theorem adC (p : Pos) : cf 0 p = false := by simp [cf]
theorem adD {p : Pos} : ∀ (c : cA) (D : Nat), cf (wr c D) p = (cf D p || cf (wr c 0) p) := by
 intro c
 induction c with
 | ops l => exact fun D => EH
 | draw l => exact fun D => zZ
 | seq a b jc iH => intro D; simp only [wr]; rw [iH, iH (wr a 0), jc, Bool.or_assoc]
 | cond c a b jc iH => intro D; simp only [wr]; rw [iH, iH (wr a 0), jc, Bool.or_assoc]
 | block id c ih => exact ih
 | loop c ih => exact ih
 | _ => intro D; simp only [wr]; rw [adC, Bool.or_false]
def bS (c : cA) (σ σ' : Sl) : Prop := ∀ p, cf (wr c 0) p = false → σ' p = σ p
theorem wU {a b : cA} {p : Pos} (h : cf (wr b (wr a 0)) p = false) : cf (wr a 0) p = false ∧ cf (wr b 0) p = false := by
 rw [adD] at h
 exact Bool.or_eq_false_iff.1 h
theorem LK {D : Nat} {p : Pos} : ∀ {ps : List Pos}, qI D ps = true → p ∈ ps → cf D p = false
 | q :: ps, h, hp => by
  rw [qI, Bool.and_eq_true] at h
  rcases List.mem_cons.1 hp with rfl | hp
  · simpa using h.1
  · exact LK h.2 hp
theorem T6 {D : Nat} {p : Pos} : ∀ {ps : List Pos}, wT D ps = true → p ∈ ps → cf D p = true
 | q :: ps, h, hp => by
  rw [wT, Bool.and_eq_true] at h
  rcases List.mem_cons.1 hp with rfl | hp
  · exact h.1
  · exact T6 h.2 hp
theorem LM {σ τ : Sl} : ∀ {ps : List Pos}, (∀ p ∈ ps, σ p = τ p) → jR ps σ = jR ps τ
 | [], _ => rfl
 | [p], h => h p (by simp)
 | p :: q :: ps, h => by
  show (σ p, jR (q :: ps) σ) = (τ p, jR (q :: ps) τ)
  rw [h p (by simp), LM fun x hx => h x (List.mem_cons_of_mem _ hx)]
theorem T7 {σ τ : Sl} {x : Pos} : ∀ {ps : List Pos}, x ∈ ps → qG ps σ (jR ps τ) x = τ x
 | [p], h => by
  obtain rfl := List.mem_singleton.1 h
  show σ.up x (τ x) x = τ x
  rw [Sl.sv, if_pos rfl]
 | p :: q :: ps, h => by
  show (qG (q :: ps) σ (jR (q :: ps) τ)).up p (τ p) x = τ x
  rw [Sl.sv]
  by_cases e : x = p
  · rw [if_pos e, e]
  · rw [if_neg e]
    exact T7 ((List.mem_cons.1 h).resolve_left e)
theorem LN {σ : Sl} {x : Pos} : ∀ {ps : List Pos} {a : zU ps}, x ∉ ps → qG ps σ a x = σ x
 | [], _, _ => rfl
 | [p], a, h => by
  exact (Sl.sv σ p x a).trans (if_neg (by simpa using h))
 | p :: q :: ps, a, h => by
  show (qG (q :: ps) σ a.2).up p a.1 x = σ x
  rw [Sl.sv, if_neg fun e => h (by simp [e]), LN fun hx => h (List.mem_cons_of_mem _ hx)]
section
variable {P : Program} {w0 : World} {e : Env} {d : DS}
theorem T9 {D : Nat} {σ τ : Sl} (h : agree D σ τ) {o : dC} (ho : wR D o = true) : dX σ o = dX τ o := by
 cases o with
 | t p => exact h p (by simpa [wR] using ho)
 | c v => rfl
theorem LQ {D : Nat} {σ τ : Sl} (h : agree D σ τ) : ∀ {l : List dC}, l.all (wR D) = true → l.map (dX σ) = l.map (dX τ)
 | [], _ => rfl
 | o :: l, hl => by
  rw [List.all_cons, Bool.and_eq_true] at hl
  rw [List.map_cons, List.map_cons, LQ h hl.2, T9 h hl.1]
theorem Ua {D : Nat} {σ τ : Sl} (h : agree D σ τ) {o : aX} (ho : pk D o = true) {E K : Value → W} : wP P w0 o σ E K = wP P w0 o τ E K := by
 obtain ⟨dst, act, args, g⟩ := o
 rw [pk, Bool.and_eq_true] at ho
 unfold wP
 simp only
 rw [LQ h ho.1]
 cases g with
 | none => rfl
 | some pw =>
  obtain ⟨g, want⟩ := pw
  have h2 : cf D g = false := by simpa using ho.2
  simp only [h g h2]
theorem Ub {act : gZ} {dst : Option Pos} {vs : List Value} {σ : Sl} {h : AH} {E K : Value → W} {Q : PQ} {K' : Sl → DS → AH → Prop} (H : EB P w0 act vs E K h) (hE : ∀ v h, E v h → Q (.az v) σ d h) (hK : ∀ v h, K v h → K' (σ.ey dst v) d h) : ij P w0 act dst e σ d h vs Q K' := by
 cases act with
 | aA p =>
  simp only [EB] at H
  revert H
  cases hp : p.EA with
  | false => exact fun H => Ep (e := e) (Q := Q) H hK
  | true =>
   match vs with
   | [] => exact fun H => Ep (e := e) (Q := Q) H hK
   | [x] => intro H; rw [Prim.adz hp]; exact fun k hk => hk _ _ (hK _ _ H)
   | _ :: _ :: _ => exact fun H => Ep (e := e) (Q := Q) H hK
 | call f => exact La H hE hK
 | dyn => exact TO H hE hK
 | panic => exact ade H hE
 | _ => exact H.elim
theorem Uc {o : aX} {σ : Sl} {h : AH} {E K : Value → W} {Q : PQ} {K' : Sl → DS → AH → Prop} (H : wP P w0 o σ E K h) (hE : ∀ v h, E v h → Q (.az v) σ d h) (hK : ∀ v h, K v h → K' (σ.ey o.dst v) d h) : wpOp P w0 o e σ d h Q K' := by
 obtain ⟨dst, act, args, g⟩ := o
 cases g with
 | none => exact Ub H hE hK
 | some pw => exact Er rfl H (fun H => Ub H hE hK) hK
theorem adE {E : Value → W} {N : Sl → W} {Q : PQ} (hE : ∀ v σ h, E v h → Q (.az v) σ d h) : ∀ {l : List aX} {D D' : Nat} {σm σ : Sl} {h : AH}, zW l D = some D' → agree D σm σ → EC P w0 l σm E N h →
 (∀ σm' σ' h, agree D' σm' σ' → bS (.ops l) σm σm' → N σm' h → Q .normal σ' d h) → wpOps P w0 l e σ d h Q := by
 intro l
 induction l with
 | nil =>
  intro D D' σm σ h hc ha H hN
  obtain rfl := Option.some.inj hc
  exact hN _ _ _ ha (fun _ _ => rfl) H
 | cons o l ih =>
  intro D D' σm σ h hc ha H hN
  unfold zW at hc
  cases ho : pk D o with
  | false => rw [ho] at hc; cases hc
  | true =>
   rw [ho] at hc
   unfold EC at H
   rw [Ua ha ho] at H
   refine Uc H (fun v h => hE v σ h) fun v h H => ih hc (ha.up o.dst v) H fun σm' σ' h h1 h2 h3 => hN _ _ _ h1 (fun p hp => ?_) h3
   have hp : cf (sw l (ph 0 o.dst)) p = false := hp
   rw [EH, Bool.or_eq_false_iff] at hp
   rw [h2 p hp.2]
   revert hp
   cases o.dst with
   | none => exact fun _ => rfl
   | some q =>
    intro hp
    have h4 := hp.1
    rw [wQ, Bool.or_eq_false_iff] at h4
    show σm.up q v p = σm p
    rw [Sl.sv, if_neg (by simpa using h4.2)]
theorem adF {D : Nat} {o : aX} {σm σ : Sl} {h : AH} {K : W} (ho : pk D o = true) (hd : (match o.dst with
 | none => true
 | some q => !cf D q) = true) (ha : agree D σm σ) (H : EE o σm K h) : wL o σ h ∧ K h := by
 obtain ⟨dst, act, args, g⟩ := o
 rw [pk, Bool.and_eq_true] at ho
 have e1 := LQ ha ho.1
 cases act with
 | aA p =>
  cases dst with
  | none => exact H.elim
  | some q =>
   have e2 : σm q = σ q := ha q (by simpa using hd)
   have cc : ED p (args.map (dX σ)) (σ q) K h → uB (.aA p) (some q) (args.map (dX σ)) σ h ∧ K h := by
    unfold ED uB
    simp only
    cases p.makes with
    | true => exact id
    | false => exact id
   cases g with
   | none =>
    simp only [EE, e1, e2] at H
    exact cc H
   | some pw =>
    obtain ⟨g, want⟩ := pw
    have e3 : σm g = σ g := ha g (by simpa using ho.2)
    simp only [EE, e1, e2, e3] at H
    exact adf rfl H cc
 | _ => cases dst <;> exact H.elim
theorem adG {E : Value → W} {N : Sl → W} {Q : PQ} (hE : ∀ v σ h, E v h → Q (.az v) σ d h) : ∀ {l : List hO} {D D' : Nat} {σm σ : Sl} {h : AH}, uJ l D = some D' → agree D σm σ → zT P w0 l σm E N h →
 (∀ σm' σ' h, agree D' σm' σ' → bS (.draw l) σm σm' → N σm' h → Q .normal σ' d h) → uC P w0 l e σ d h Q := by
 intro l
 induction l with
 | nil =>
  intro D D' σm σ h hc ha H hN
  obtain rfl := Option.some.inj hc
  exact hN _ _ _ ha (fun _ _ => rfl) H
 | cons o l ih =>
  intro D D' σm σ h hc ha H hN
  cases o with
  | kL i o =>
   unfold uJ at hc
   cases ho : (pk D o && (match o.dst with
    | none => true
    | some q => !cf D q)) with
   | false => rw [ho] at hc; cases hc
   | true =>
    rw [ho] at hc
    rw [Bool.and_eq_true] at ho
    have H2 := adF ho.1 ho.2 ha H
    exact ⟨H2.1, ih hc ha H2.2 hN⟩
  | op i o =>
   unfold uJ at hc
   cases ho : pk D o with
   | false => rw [ho] at hc; cases hc
   | true =>
    rw [ho] at hc
    unfold zT at H
    rw [Ua ha ho] at H
    refine Uc H (fun v h => hE v σ h) fun v h H => ih hc (ha.up o.dst v) H fun σm' σ' h h1 h2 h3 => hN _ _ _ h1 (fun p hp => ?_) h3
    have hp : cf (nY l (ph 0 o.dst)) p = false := hp
    rw [zZ, Bool.or_eq_false_iff] at hp
    rw [h2 p hp.2]
    revert hp
    cases o.dst with
    | none => exact fun _ => rfl
    | some q =>
     intro hp
     have h4 := hp.1
     rw [wQ, Bool.or_eq_false_iff] at h4
     show σm.up q v p = σm p
     rw [Sl.sv, if_neg (by simpa using h4.2)]
theorem Ud {id D : Nat} : ∀ {l : List (Nat × Nat)} {j : Nat}, (j, D) ∈ l → Nat.beq j id = true → ∃ G, qH id l = some G ∧ ∀ σ τ : Sl, agree D σ τ → agree G σ τ
 | (i, A) :: l, j, hm, hj => by
  rcases List.mem_cons.1 hm with e | hm
  · obtain ⟨rfl, rfl⟩ := Prod.mk.inj e
    obtain ⟨B, hB, _⟩ := zX (a := some D) (b := qH id l) rfl
    exact ⟨_, by rw [qH, hj]; exact hB, fun σ τ h => h.or⟩
  · obtain ⟨G, h1, h2⟩ := Ud hm hj
    cases hi : Nat.beq i id with
    | false => exact ⟨G, by rw [qH, hi]; exact h1, h2⟩
    | true =>
     obtain ⟨A', hA⟩ := zY (a := some A) h1
     exact ⟨_, by rw [qH, hi]; exact hA, fun σ τ h => (h2 σ τ h).or'⟩
theorem Ue {id D : Nat} : ∀ {l : List (Nat × Nat)} {j : Nat}, (j, D) ∈ l → Nat.beq j id = false → (j, D) ∈ wS id l
 | (i, A) :: l, j, hm, hj => by
  rcases List.mem_cons.1 hm with e | hm
  · obtain ⟨rfl, rfl⟩ := Prod.mk.inj e
    rw [wS, hj]
    exact List.mem_cons_self
  · have := Ue hm hj
    rw [wS]
    cases Nat.beq i id with
    | true => exact this
    | false => exact List.mem_cons_of_mem _ this
theorem adH (bt : P.follows .mixedOrders = true) : ∀ (c : cA) {L : List (List Pos)} {D : Nat} {r : Out} {σm σ : Sl} {h : AH} {E : Value → W} {X : AX → Sl → W} {Q : PQ}, gw c L D = some r → agree D σm σ → cF P w0 c L σm E X h →
 (∀ v σ h, E v h → Q (.az v) σ d h) → (∀ x D' σm' σ' h, r.at x D' → agree D' σm' σ' → bS c σm σm' → X x σm' h → Q x σ' d h) → dw P w0 c e σ d h Q := by
 intro c
 induction c with
 | skip =>
  intro L D r σm σ h E X Q hc ha H hE hX
  obtain rfl := Option.some.inj hc
  exact hX .normal D _ _ _ rfl ha (fun _ _ => rfl) H
 | ops l =>
  intro L D r σm σ h E X Q hc ha H hE hX
  unfold gw at hc
  cases hD : zW l D with
  | none => rw [hD] at hc; cases hc
  | some D' =>
   rw [hD] at hc
   obtain rfl := Option.some.inj hc
   exact adE hE hD ha H fun σm' σ' h h1 h2 h3 => hX .normal D' _ _ _ rfl h1 h2 h3
 | draw l =>
  intro L D r σm σ h E X Q hc ha H hE hX
  unfold gw at hc
  cases hD : uJ l D with
  | none => rw [hD] at hc; cases hc
  | some D' =>
   rw [hD] at hc
   obtain rfl := Option.some.inj hc
   exact adG hE hD ha H fun σm' σ' h h1 h2 h3 => hX .normal D' _ _ _ rfl h1 h2 h3
 | seq a b jc iH =>
  intro L D r σm σ h E X Q hc ha H hE hX
  unfold gw at hc
  cases hA : gw a L D with
  | none => rw [hA] at hc; cases hc
  | some ra =>
   rw [hA] at hc
   simp only at hc
   cases hn : ra.n with
   | none =>
    rw [hn] at hc
    obtain rfl := Option.some.inj hc
    refine jc hA ha H hE fun x D' σm' σ' h h1 h2 h3 h4 => ?_
    have hk : bS (.seq a b) σm σm' := fun p hp => h3 p (wU hp).1
    cases x with
    | normal => exact absurd (hn.symm.trans h1) nofun
    | ret => exact hX .ret D' _ _ _ h1 h2 hk h4
    | exit id => exact hX (.exit id) D' _ _ _ h1 h2 hk h4
    | az v => exact h1.elim
   | some D1 =>
    rw [hn] at hc
    simp only at hc
    cases hB : gw b (L.drop (nl a)) D1 with
    | none => rw [hB] at hc; cases hc
    | some rb =>
     rw [hB] at hc
     obtain rfl := Option.some.inj hc
     refine jc hA ha H hE fun x D' σm' σ' h h1 h2 h3 h4 => ?_
     have hk : bS (.seq a b) σm σm' := fun p hp => h3 p (wU hp).1
     cases x with
     | normal =>
      obtain rfl := Option.some.inj (hn.symm.trans h1)
      refine iH hB h2 h4 hE fun x D' σm2 σ2 h g1 g2 g3 g4 => ?_
      have yX : bS (.seq a b) σm σm2 := fun p hp => (g3 p (wU hp).2).trans (h3 p (wU hp).1)
      cases x with
      | normal => exact hX .normal D' _ _ _ g1 g2 yX g4
      | ret =>
       obtain ⟨A, hA⟩ := zY (a := ra.r) g1
       exact hX .ret _ _ _ _ hA g2.or' yX g4
      | exit id => exact hX (.exit id) D' _ _ _ (List.mem_append_right _ g1) g2 yX g4
      | az v => exact g1.elim
     | ret =>
      obtain ⟨B, hB, _⟩ := zX (b := rb.r) h1
      exact hX .ret _ _ _ _ hB h2.or hk h4
     | exit id => exact hX (.exit id) D' _ _ _ (List.mem_append_left _ h1) h2 hk h4
     | az v => exact h1.elim
 | cond o a b jc iH =>
  intro L D r σm σ h E X Q hc ha H hE hX
  unfold gw at hc
  cases ho : wR D o with
  | false => rw [ho] at hc; cases hc
  | true =>
   rw [ho] at hc
   have hc : T5 (gw a L D) (gw b (L.drop (nl a)) D) = some r := hc
   cases hA : gw a L D with
   | none => rw [hA] at hc; cases hc
   | some ra =>
    cases hB : gw b (L.drop (nl a)) D with
    | none => rw [hA, hB] at hc; cases hc
    | some rb =>
     rw [hA, hB] at hc
     obtain rfl := Option.some.inj hc
     unfold cF at H
     rw [T9 ha ho] at H
     refine pO rfl H (fun H => jc hA ha H hE fun x D' σm' σ' h h1 h2 h3 h4 => ?_) (fun H => iH hB ha H hE fun x D' σm' σ' h h1 h2 h3 h4 => ?_)
     · have hk : bS (.cond o a b) σm σm' := fun p hp => h3 p (wU hp).1
       cases x with
       | normal =>
        obtain ⟨B, hB, _⟩ := zX (b := rb.n) h1
        exact hX .normal _ _ _ _ hB h2.or hk h4
       | ret =>
        obtain ⟨B, hB, _⟩ := zX (b := rb.r) h1
        exact hX .ret _ _ _ _ hB h2.or hk h4
       | exit id => exact hX (.exit id) D' _ _ _ (List.mem_append_left _ h1) h2 hk h4
       | az v => exact h1.elim
     · have hk : bS (.cond o a b) σm σm' := fun p hp => h3 p (wU hp).2
       cases x with
       | normal =>
        obtain ⟨A, hA⟩ := zY (a := ra.n) h1
        exact hX .normal _ _ _ _ hA h2.or' hk h4
       | ret =>
        obtain ⟨A, hA⟩ := zY (a := ra.r) h1
        exact hX .ret _ _ _ _ hA h2.or' hk h4
       | exit id => exact hX (.exit id) D' _ _ _ (List.mem_append_right _ h1) h2 hk h4
       | az v => exact h1.elim
 | block id c ih =>
  intro L D r σm σ h E X Q hc ha H hE hX
  unfold gw at hc
  cases hC : gw c L D with
  | none => rw [hC] at hc; cases hc
  | some rc =>
   rw [hC] at hc
   obtain rfl := Option.some.inj hc
   refine ih hC ha H hE fun x D' σm' σ' h h1 h2 h3 h4 => ?_
   cases x with
   | normal =>
    obtain ⟨B, hB, _⟩ := zX (b := qH id rc.x) h1
    exact hX .normal _ _ _ _ hB h2.or h3 h4
   | ret => exact hX .ret D' _ _ _ h1 h2 h3 h4
   | exit j =>
    have h4 : (bif Nat.beq j id then X .normal σm' else X (.exit j) σm') h := h4
    show bif Nat.beq j id then Q .normal σ' d h else Q (.exit j) σ' d h
    cases hj : Nat.beq j id with
    | true =>
     rw [hj] at h4
     obtain ⟨G, hG, hm⟩ := Ud h1 hj
     obtain ⟨A, hA⟩ := zY (a := rc.n) hG
     exact hX .normal _ _ _ _ hA (hm _ _ h2).or' h3 h4
    | false =>
     rw [hj] at h4
     exact hX (.exit j) D' _ _ _ (Ue h1 hj) h2 h3 h4
   | az v => exact h1.elim
 | loop c ih =>
  intro L D r σm σ h E X Q hc ha H hE hX
  cases L with
  | nil => cases hc
  | cons ps L =>
   have hc : (bif qI D ps && wT (wr c 0) ps then EG ps (D ||| je (wr c 0) ps) (gw c L (D ||| je (wr c 0) ps)) else none) = some r := hc
   cases ew : qI D ps && wT (wr c 0) ps with
   | false => rw [ew] at hc; cases hc
   | true =>
    rw [ew] at hc
    have hc : EG ps (D ||| je (wr c 0) ps) (gw c L (D ||| je (wr c 0) ps)) = some r := hc
    rw [Bool.and_eq_true] at ew
    cases hC : gw c L (D ||| je (wr c 0) ps) with
    | none => rw [hC] at hc; cases hc
    | some rc =>
     rw [hC] at hc
     have fit : ∀ σ', (∀ p, cf (D ||| je (wr c 0) ps) p = false → p ∉ ps → σm p = σ' p) → agree (D ||| je (wr c 0) ps) (qG ps σm (jR ps σ')) σ' := fun σ' hh p hp => by
      by_cases hm : p ∈ ps
      · exact T7 hm
      · rw [LN hm]; exact hh p hp hm
     have out : ∀ p, cf (D ||| je (wr c 0) ps) p = false → p ∉ ps → cf D p = false ∧ cf (wr c 0) p = false := fun p hp hm => by
      rw [EF, Bool.or_eq_false_iff, T3] at hp
      exact ⟨hp.1, by simpa [hm] using hp.2⟩
     have LU : r.r = rc.r ∧ r.x = rc.x ∧ ∀ D1, rc.n = some D1 → qI D1 ps = true ∧ Nat.beq (D1 ||| (D ||| je (wr c 0) ps)) (D ||| je (wr c 0) ps) = true := by
      unfold EG at hc
      simp only at hc
      cases hn : rc.n with
      | none =>
       rw [hn] at hc
       obtain rfl := Option.some.inj hc
       exact ⟨rfl, rfl, nofun⟩
      | some D1 =>
       rw [hn] at hc
       simp only at hc
       cases ht : qI D1 ps && Nat.beq (D1 ||| (D ||| je (wr c 0) ps)) (D ||| je (wr c 0) ps) with
       | false => rw [ht] at hc; cases hc
       | true =>
        rw [ht] at hc
        obtain rfl := Option.some.inj hc
        exact ⟨rfl, rfl, fun D2 h2 => by obtain rfl := Option.some.inj h2; exact Bool.and_eq_true_iff.1 ht⟩
     obtain ⟨n, H⟩ := H
     have key : ∀ n σh h, agree (D ||| je (wr c 0) ps) (qG ps σm (jR ps σh)) σh → gr (fun k a => cF P w0 c L (qG ps σm a) E fun x σ => match x with
      | .normal => k (jR ps σ)
      | x => X x σ) n (jR ps σh) h → WC P w0 (.loop c) e σh d h Q := by
      intro n
      induction n with
      | zero => intro σh h _ H; exact H.elim
      | succ n ihn =>
       intro σh h hh H
       refine KE bt (ih hC hh H hE fun x D' σm' σ' h h1 h2 h3 h4 => ?_)
       have hk : bS (.loop c) σm σm' := fun p hp => (h3 p hp).trans (LN fun hm => by
        have := T6 ew.2 hm
        rw [show cf (wr c 0) p = false from hp] at this
        cases this)
       cases x with
       | normal =>
        obtain ⟨q1, q2⟩ := LU.2.2 D' h1
        have e1 : jR ps σm' = jR ps σ' := LM fun p hp => h2 p (LK q1 hp)
        refine ihn σ' h (fit σ' fun p hp hm => ?_) (e1 ▸ h4)
        rw [← hk p (out p hp hm).2]
        refine h2 p ?_
        have e2 := Nat.eq_of_beq_eq_true q2
        rw [← e2, EF, Bool.or_eq_false_iff] at hp
        exact hp.1
       | ret => exact hX .ret D' _ _ _ (LU.1.trans h1) h2 hk h4
       | exit id => exact hX (.exit id) D' _ _ _ (show (id, D') ∈ r.x by rw [LU.2.1]; exact h1) h2 hk h4
       | az v => exact h1.elim
     have e0 : jR ps σm = jR ps σ := LM fun p hp => ha p (LK ew.1 hp)
     exact key n σ h (fit σ fun p hp hm => ha p (out p hp hm).1) (e0 ▸ H)
 | lY f ps a b jc iH =>
  intro L D r σm σ h E X Q hc
  cases hc
 | exit id =>
  intro L D r σm σ h E X Q hc ha H hE hX
  obtain rfl := Option.some.inj hc
  exact hX (.exit id) D _ _ _ (List.mem_singleton.2 rfl) ha (fun _ _ => rfl) H
 | ret =>
  intro L D r σm σ h E X Q hc ha H hE hX
  obtain rfl := Option.some.inj hc
  exact hX .ret D _ _ _ rfl ha (fun _ _ => rfl) H
def po (D : Nat) : List j4 → Bool
 | [] => true
 | .tmp p :: rs => !cf D p && po D rs
 | .cell p _ :: rs => !cf D p && po D rs
theorem z6 {D : Nat} {σ τ : Sl} (ha : agree D σ τ) {h : AH} : ∀ {rs : List j4} {K : List Value → Prop}, po D rs = true → kV rs σ h K = kV rs τ h K
 | [], _, _ => rfl
 | .tmp p :: rs, K, hd => by
  rw [po, Bool.and_eq_true] at hd
  unfold kV
  rw [ha p (by simpa using hd.1), z6 ha hd.2]
 | .cell p none :: rs, K, hd => by
  rw [po, Bool.and_eq_true] at hd
  unfold kV
  rw [ha p (by simpa using hd.1)]
  congr 1
  funext v h'
  rw [z6 ha hd.2]
 | .cell p (some n) :: rs, K, hd => by
  rw [po, Bool.and_eq_true] at hd
  unfold kV
  rw [ha p (by simpa using hd.1)]
  congr 1
  funext v h'
  rw [z6 ha hd.2]
def Uf (af : fU) (L : List (List Pos)) : Bool := match gw af.code L 0 with
 | none => false
 | some r => (match r.n with
  | none => true
  | some D => po D af.results) && (match r.r with
  | none => true
  | some D => po D af.results)
theorem eJ (bt : P.follows .mixedOrders = true) {f : FuncId} {af : fU} (hf : bN P f = some af) (L : List (List Pos)) (hd : Uf af L = true) {args : List Value} {h : AH} {R : CR → AH → Prop}
 (H : cF P w0 af.code L (Ed args) (fun v h => R (.az v) h) (fun x σ h => zP P w0 af.results R x σ ⟨[], .off⟩ h) h) : WF P w0 f args h R := by
 refine Cr bt hf ?_
 unfold Uf at hd
 cases hc : gw af.code L 0 with
 | none => rw [hc] at hd; cases hd
 | some r =>
  rw [hc] at hd
  simp only [Bool.and_eq_true] at hd
  refine adH bt af.code hc (fun _ _ => rfl) H (fun v σ h hv => hv) fun x D' σm' σ' h h1 h2 _ h4 => ?_
  cases x with
  | normal =>
   have h5 : po D' af.results = true := by have := hd.1; rw [show r.n = some D' from h1] at this; exact this
   have h4 : kV af.results σm' h fun vs => R (.ret (uE vs)) h := h4
   rw [z6 h2 h5] at h4
   exact h4
  | ret =>
   have h5 : po D' af.results = true := by have := hd.2; rw [show r.r = some D' from h1] at this; exact this
   have h4 : kV af.results σm' h fun vs => R (.ret (uE vs)) h := h4
   rw [z6 h2 h5] at h4
   exact h4
  | exit id => exact h4.elim
  | az v => exact h1.elim
end
end
end Go.Ve
namespace Go.Ve.T
open Go.Ve Go.Proofs
noncomputable section
set_option maxRecDepth 10000
def OU (w0 : World) (E R : Value → W) (x0 x1 x2 : Value) : W :=
 pr (.aH .leq) [x1, x0] fun v1 =>
 gd v1 true (fun k => k x0) fun v2 =>
 gd v1 true (fun k => k x2) fun v3 =>
 gd v1 true (fun k => pr (.aH .leq) [v2, v3] k) fun v4 =>
 pr (.pick) [v1, v4, (.bool false)] fun v5 =>
 R v5
theorem Xz {w0 : World} {h : AH} {Q : CR → AH → Prop} (x0 x1 x2 : Value) (H : OU w0 (fun v h => Q (.az v) h) (fun v h => Q (.ret v) h) x0 x1 x2 h) : WF PP w0 pK [x0, x1, x2] h Q :=
 eJ bt XA [] (by kernel_rfl) (Eq.mp (by kernel_rfl) H)
def GA (w0 : World) (E R : Value → W)  : W :=
 R (vi (-1))
def GB (w0 : World) (E R : Value → W) (y3 : Value) (k2 : Value → W) : W :=
 pr (.aH .add) [y3, (vi 1)] fun v5 =>
 k2 v5
def GC (w0 : World) (E R : Value → W) (x0 y3 x1 : Value) (k2 : Value → W) : W :=
 pr (.di 1) [x0, y3] fun v6 =>
 pr (.aB) [v6] fun v7 =>
 dy PP w0 [x1, v7] E fun v8 =>
 br v8 (
 R y3) (
 GB w0 E R y3 k2)
def B9 (w0 : World) (E R : Value → W) (v1 x0 x1 : Value) (k2 : Value → W) (y3 : Value) : W :=
 pr (.aH .lss) [y3, v1] fun v4 =>
 br v4 (
 GC w0 E R x0 y3 x1 k2) (
 GA w0 E R )
def OV (w0 : World) (E R : Value → W) (x0 x1 : Value) : W :=
 pr (.cW) [x0] fun v1 =>
 LP (α := Value) (fun k a => B9 w0 E R v1 x0 x1 k a) ((vi 0))
theorem XB {w0 : World} {h : AH} {Q : CR → AH → Prop} (x0 x1 : Value) (H : OV w0 (fun v h => Q (.az v) h) (fun v h => Q (.ret v) h) x0 x1 h) : WF PP w0 GD [x0, x1] h Q :=
 eJ bt XC [[s8]] (by kernel_rfl) (Eq.mp (by kernel_rfl) H)
def OW (w0 : World) (E R : Value → W) (x0 x1 : Value) : W :=
 cl PP w0 GD [x0, x1] E fun v1 =>
 pr (.aH .geq) [v1, (vi 0)] fun v2 =>
 R v2
theorem XD {w0 : World} {h : AH} {Q : CR → AH → Prop} (x0 x1 : Value) (H : OW w0 (fun v h => Q (.az v) h) (fun v h => Q (.ret v) h) x0 x1 h) : WF PP w0 GF [x0, x1] h Q :=
 eJ bt XE [] (by kernel_rfl) (Eq.mp (by kernel_rfl) H)
def OX (w0 : World) (E R : Value → W) (x0 v1 : Value) : W :=
 cl PP w0 OY [] E fun v2 =>
 pr (.GG 35 9) [v2, x0] fun v3 =>
 pr (.store 9) [v1, v3] fun v4 =>
 ld (.bB 9) [v1] fun v5 =>
 R (.tuple ⟨[v5, (.bool true)]⟩)
def Ca (w0 : World) (E R : Value → W) (v1 x0 v9 : Value) : W :=
 br v9 (
 pr (.build [(bs []), (vi 0), (vi 0), (vi 0), (vi 0), (vi 0), (vi 0), (.bool false), (.bool false)] []) [] fun v10 =>
 pr (.store 9) [v1, v10] fun v11 =>
 ld (.bB 9) [v1] fun v12 =>
 R (.tuple ⟨[v12, (.bool false)]⟩)) (
 OX w0 E R x0 v1)
def OZ (w0 : World) (E R : Value → W) (x0 : Value) : W :=
 pr (.alloc 138 [(bs []), (vi 0), (vi 0), (vi 0), (vi 0), (vi 0), (vi 0), (.bool false), (.bool false)]) [] fun v1 =>
 pr (.aH .lss) [x0, (vi 1)] fun v6 =>
 gd v6 false (fun k => k x0) fun v7 =>
 gd v6 false (fun k => pr (.aH .gtr) [v7, (vi 34)] k) fun v8 =>
 pr (.pick) [v6, (.bool true), v8] fun v9 =>
 Ca w0 E R v1 x0 v9
theorem XF {w0 : World} {h : AH} {Q : CR → AH → Prop} (x0 : Value) (H : OZ w0 (fun v h => Q (.az v) h) (fun v h => Q (.ret v) h) x0 h) : WF PP w0 rf [x0] h Q :=
 eJ bt XG [] (by kernel_rfl) (Eq.mp (by kernel_rfl) H)
def O0 (w0 : World) (E R : Value → W) (x0 : Value) : W :=
 pr (.box 67) [x0] fun v1 =>
 pr (.alloc 135 [(vi 0), (vi 0), (vi 0)]) [] fun v2 =>
 pr (.fieldAddr 1) [v1] fun v3 =>
 pr (.aB) [v3] fun v4 =>
 pr (.fieldAddr 2) [v1] fun v5 =>
 pr (.aB) [v5] fun v6 =>
 pr (.fieldAddr 3) [v1] fun v7 =>
 pr (.aB) [v7] fun v8 =>
 pr (.cX [1, 1, 1]) [v4, v6, v8] fun v9 =>
 pr (.store 3) [v2, v9] fun v10 =>
 ld (.bB 3) [v2] fun v11 =>
 R v11
theorem XH {w0 : World} {h : AH} {Q : CR → AH → Prop} (x0 : Value) (H : O0 w0 (fun v h => Q (.az v) h) (fun v h => Q (.ret v) h) x0 h) : WF PP w0 vC [x0] h Q :=
 eJ bt XI [] (by kernel_rfl) (Eq.mp (by kernel_rfl) H)
def GH (w0 : World) (E R : Value → W) (y9 : Value) : W :=
 R y9
def Cb (w0 : World) (E R : Value → W) (aN : Value) (dk : Value → Value → W) (bR : Value) : W :=
 pr (.aH .add) [aN, (vi 1)] fun eK =>
 dk bR eK
def GI (w0 : World) (E R : Value → W) (v11 aN v1 ar : Value) (dk : Value → Value → W) : W :=
 pr (.pL 3) [v11, aN] fun ch =>
 pr (.aH .eql) [ch, (vi 3)] fun fb =>
 br fb (
 pr (.bB 4) [v1] fun v20 =>
 cl PP w0 vC [v20] E fun v21 =>
 pr (.pL 3) [v21, aN] fun dV =>
 pr (.buildSlice 3 1 [(vi 0)] [(0,1)]) [dV] fun fk =>
 pr (.append 3 1 [(vi 0)]) [ar, fk] fun v24 =>
 Cb w0 E R aN dk v24) (
 Cb w0 E R aN dk ar)
def Cc (w0 : World) (E R : Value → W) (v11 v1 : Value) (dk : Value → Value → W) (ar aN : Value) : W :=
 pr (.aH .lss) [aN, (vi 3)] fun cj =>
 br cj (
 GI w0 E R v11 aN v1 ar dk) (
 GH w0 E R  ar)
def O1 (w0 : World) (E R : Value → W) (x0 : Value) : W :=
 pr (.box 67) [x0] fun v1 =>
 pr (.fieldAddr 0) [v1] fun v2 =>
 pr (.aB) [v2] fun v3 =>
 cl PP w0 rf [v3] E fun v4 =>
 pr (.extract 0) [v4] fun v5 =>
 pr (.extract 1) [v4] fun v6 =>
 pr (.alloc 138 [(bs []), (vi 0), (vi 0), (vi 0), (vi 0), (vi 0), (vi 0), (.bool false), (.bool false)]) [] fun v7 =>
 pr (.store 9) [v7, v5] fun v8 =>
 pr (.fieldAddr 1) [v7] fun v10 =>
 pr (.bB 3) [v10] fun v11 =>
 LP (α := Value × Value) (fun k a => Cc w0 E R v11 v1 (fun b0 b1 => k (b0, b1)) a.1 a.2) (cP, (vi 0))
theorem XJ {w0 : World} {h : AH} {Q : CR → AH → Prop} (x0 : Value) (H : O1 w0 (fun v h => Q (.az v) h) (fun v h => Q (.ret v) h) x0 h) : WF PP w0 Cd [x0] h Q :=
 eJ bt XK [[s5, oG]] (by kernel_rfl) (Eq.mp (by kernel_rfl) H)
def O2 (w0 : World) (E R : Value → W) (x0 x1 : Value) : W :=
 pr (.box 79) [x0] fun v1 =>
 pr (.fieldAddr 0) [v1] fun v2 =>
 pr (.aB) [v2] fun v3 =>
 pr (.aB) [x1] fun v4 =>
 pr (.aH .leq) [v3, v4] fun v5 =>
 gd v5 true (fun k => pr (.aB) [x1] k) fun v6 =>
 gd v5 true (fun k => pr (.fieldAddr 1) [v1] k) fun v7 =>
 gd v5 true (fun k => pr (.aB) [v7] k) fun v8 =>
 gd v5 true (fun k => pr (.aH .lss) [v6, v8] k) fun v9 =>
 pr (.pick) [v5, v9, (.bool false)] fun v10 =>
 R v10
theorem XL {w0 : World} {h : AH} {Q : CR → AH → Prop} (x0 x1 : Value) (H : O2 w0 (fun v h => Q (.az v) h) (fun v h => Q (.ret v) h) x0 x1 h) : WF PP w0 Ce [x0, x1] h Q :=
 eJ bt XM [] (by kernel_rfl) (Eq.mp (by kernel_rfl) H)
def GJ (w0 : World) (E R : Value → W)  : W :=
 R (vi (-1))
def GK (w0 : World) (E R : Value → W) (y3 : Value) (k2 : Value → W) : W :=
 pr (.aH .add) [y3, (vi 1)] fun v5 =>
 k2 v5
def GL (w0 : World) (E R : Value → W) (x0 y3 x1 : Value) (k2 : Value → W) : W :=
 pr (.di 3) [x0, y3] fun v6 =>
 pr (.bB 3) [v6] fun v7 =>
 dy PP w0 [x1, v7] E fun v8 =>
 br v8 (
 R y3) (
 GK w0 E R y3 k2)
def Cf (w0 : World) (E R : Value → W) (v1 x0 x1 : Value) (k2 : Value → W) (y3 : Value) : W :=
 pr (.aH .lss) [y3, v1] fun v4 =>
 br v4 (
 GL w0 E R x0 y3 x1 k2) (
 GJ w0 E R )
def O3 (w0 : World) (E R : Value → W) (x0 x1 : Value) : W :=
 pr (.cW) [x0] fun v1 =>
 LP (α := Value) (fun k a => Cf w0 E R v1 x0 x1 k a) ((vi 0))
theorem XN {w0 : World} {h : AH} {Q : CR → AH → Prop} (x0 x1 : Value) (H : O3 w0 (fun v h => Q (.az v) h) (fun v h => Q (.ret v) h) x0 x1 h) : WF PP w0 Cg [x0, x1] h Q :=
 eJ bt XO [[s8]] (by kernel_rfl) (Eq.mp (by kernel_rfl) H)
def O4 (w0 : World) (E R : Value → W) (x0 x1 : Value) : W :=
 pr (.box 25) [x0] fun v1 =>
 pr (.box 3) [x1] fun v2 =>
 pr (.fieldAddr 6) [v1] fun v3 =>
 pr (.aB) [v3] fun v4 =>
 pr (.tx (.func Ce) 0) [v2] fun v5 =>
 cl PP w0 Cg [v4, v5] E fun v6 =>
 R v6
theorem XP {w0 : World} {h : AH} {Q : CR → AH → Prop} (x0 x1 : Value) (H : O4 w0 (fun v h => Q (.az v) h) (fun v h => Q (.ret v) h) x0 x1 h) : WF PP w0 Ch [x0, x1] h Q :=
 eJ bt XQ [] (by kernel_rfl) (Eq.mp (by kernel_rfl) H)
def GM (w0 : World) (E R : Value → W) (x1 eK x0 dV : Value) : W :=
 br dV (
 pr (.fieldAddr 6) [x1] fun fk =>
 pr (.aB) [fk] fun v24 =>
 pr (.di 3) [v24, eK] fun fD =>
 pr (.fieldAddr 2) [fD] fun iy =>
 pr (.aB) [iy] fun gC =>
 dy PP w0 [x0, gC, (vi 2)] E fun v28 =>
 R (.tuple ⟨[]⟩)) (
 R (.tuple ⟨[]⟩))
def GN (w0 : World) (E R : Value → W) (x1 x2 bX x0 : Value) : W :=
 pr (.bB 7) [x1] fun cj =>
 pr (.aB) [x2] fun eU =>
 cl PP w0 Ch [cj, eU] E fun eK =>
 pr (.fieldAddr 7) [bX] fun ch =>
 pr (.aB) [ch] fun fb =>
 gd fb true (fun k => k eK) fun v20 =>
 gd fb true (fun k => pr (.aH .geq) [v20, (vi 0)] k) fun v21 =>
 pr (.pick) [fb, v21, (.bool false)] fun dV =>
 GM w0 E R x1 eK x0 dV
def O5 (w0 : World) (E R : Value → W) (tz : Value) (xX : Value → W) : W :=
 pr (.aH .add) [tz, (vi 1)] fun jq =>
 xX jq
def O6 (w0 : World) (E R : Value → W) (v30 tz x0 : Value) (xX : Value → W) : W :=
 pr (.di 1) [v30, tz] fun j2 =>
 pr (.aB) [j2] fun v37 =>
 dy PP w0 [x0, v37, (vi 1)] E fun iQ =>
 pr (.eL) [iQ] fun kF =>
 br kF (
 R (.tuple ⟨[]⟩)) (
 O5 w0 E R tz xX)
def O7 (w0 : World) (E R : Value → W) (v31 v30 x0 x1 x2 bX : Value) (xX : Value → W) (tz : Value) : W :=
 pr (.aH .lss) [tz, v31] fun kG =>
 br kG (
 O6 w0 E R v30 tz x0 xX) (
 GN w0 E R x1 x2 bX x0)
def GO (w0 : World) (E R : Value → W) (v6 x0 x1 x2 bX : Value) : W :=
 pr (.bB 4) [v6] fun cd =>
 cl PP w0 Cd [cd] E fun v30 =>
 pr (.cW) [v30] fun v31 =>
 LP (α := Value) (fun k a => O7 w0 E R v31 v30 x0 x1 x2 bX k a) ((vi 0))
def xY (w0 : World) (E R : Value → W) (v6 x0 x1 x2 bX kH : Value) : W :=
 br kH (
 R (.tuple ⟨[]⟩)) (
 GO w0 E R v6 x0 x1 x2 bX)
def GP (w0 : World) (E R : Value → W) (x0 x2 v6 x1 bX v49 : Value) : W :=
 gd v49 true (fun k => k x0) fun gY =>
 gd v49 true (fun k => pr (.aB) [x2] k) fun v51 =>
 gd v49 true (fun k => pr (.aH .add) [v51, (vi 1)] k) fun kI =>
 gd v49 true (fun k => dy PP w0 [gY, kI, (vi 0)] E k) fun v53 =>
 gd v49 true (fun k => pr (.eL) [v53] k) fun oH =>
 pr (.pick) [v49, oH, (.bool false)] fun kH =>
 xY w0 E R v6 x0 x1 x2 bX kH
def O8 (w0 : World) (E R : Value → W) (x0 x1 x2 : Value) : W :=
 pr (.fieldAddr 5) [x1] fun v1 =>
 pr (.aB) [v1] fun v2 =>
 pr (.aB) [x2] fun v3 =>
 pr (.di 4) [v2, v3] fun v4 =>
 pr (.bB 4) [v4] fun v5 =>
 pr (.alloc 67 [(vi 0), (vi 0), (vi 0), (vi 0)]) [] fun v6 =>
 pr (.store 4) [v6, v5] fun v7 =>
 pr (.fieldAddr 0) [v6] fun v8 =>
 pr (.aB) [v8] fun v9 =>
 cl PP w0 rf [v9] E fun v10 =>
 pr (.extract 0) [v10] fun v11 =>
 pr (.extract 1) [v10] fun v12 =>
 pr (.alloc 138 [(bs []), (vi 0), (vi 0), (vi 0), (vi 0), (vi 0), (vi 0), (.bool false), (.bool false)]) [] fun bX =>
 pr (.store 9) [bX, v11] fun cH =>
 pr (.fieldAddr 8) [bX] fun v40 =>
 pr (.aB) [v40] fun fS =>
 pr (.eL) [fS] fun mv =>
 gd mv true (fun k => pr (.aB) [x2] k) fun gD =>
 gd mv true (fun k => pr (.aH .add) [gD, (vi 1)] k) fun nu =>
 gd mv true (fun k => pr (.fieldAddr 5) [x1] k) fun nv =>
 gd mv true (fun k => pr (.aB) [nv] k) fun v46 =>
 gd mv true (fun k => pr (.cW) [v46] k) fun eM =>
 gd mv true (fun k => pr (.aH .lss) [nu, eM] k) fun fE =>
 pr (.pick) [mv, fE, (.bool false)] fun v49 =>
 GP w0 E R x0 x2 v6 x1 bX v49
theorem XR {w0 : World} {h : AH} {Q : CR → AH → Prop} (x0 x1 x2 : Value) (H : O8 w0 (fun v h => Q (.az v) h) (fun v h => Q (.ret v) h) x0 x1 x2 h) : WF PP w0 Ci [x0, x1, x2] h Q :=
 eJ bt XS [[xZ]] (by kernel_rfl) (Eq.mp (by kernel_rfl) H)
def O9 (w0 : World) (E R : Value → W) (x0 x1 : Value) : W :=
 pr (.box 25) [x0] fun v1 =>
 pr (.box 3) [x1] fun v2 =>
 pr (.tx (.func Ci) 0) [v1, v2] fun v3 =>
 R v3
theorem XT {w0 : World} {h : AH} {Q : CR → AH → Prop} (x0 x1 : Value) (H : O9 w0 (fun v h => Q (.az v) h) (fun v h => Q (.ret v) h) x0 x1 h) : WF PP w0 x7 [x0, x1] h Q :=
 eJ bt XU [] (by kernel_rfl) (Eq.mp (by kernel_rfl) H)
def Pa (w0 : World) (E R : Value → W) (x0 x1 : Value) : W :=
 pr (.aB) [x1] fun v1 =>
 pr (.aH .sub) [v1, (vi 1)] fun v2 =>
 cl PP w0 pK [x0, (vi 0), v2] E fun v3 =>
 pr (.eL) [v3] fun v4 =>
 R v4
theorem XV {w0 : World} {h : AH} {Q : CR → AH → Prop} (x0 x1 : Value) (H : Pa w0 (fun v h => Q (.az v) h) (fun v h => Q (.ret v) h) x0 x1 h) : WF PP w0 Cj [x0, x1] h Q :=
 eJ bt XW [] (by kernel_rfl) (Eq.mp (by kernel_rfl) H)
def GQ (w0 : World) (E R : Value → W) (v1 x1 cj : Value) : W :=
 gd cj false (fun k => pr (.fieldAddr 2) [v1] k) fun eU =>
 gd cj false (fun k => pr (.aB) [eU] k) fun eK =>
 gd cj false (fun k => pr (.aB) [x1] k) fun ch =>
 gd cj false (fun k => pr (.aH .sub) [ch, (vi 1)] k) fun fb =>
 gd cj false (fun k => cl PP w0 pK [eK, (vi 0), fb] E k) fun v20 =>
 gd cj false (fun k => pr (.eL) [v20] k) fun v21 =>
 pr (.pick) [cj, (.bool true), v21] fun dV =>
 R dV
def GR (w0 : World) (E R : Value → W) (v1 x1 v10 : Value) : W :=
 gd v10 false (fun k => pr (.fieldAddr 1) [v1] k) fun v11 =>
 gd v10 false (fun k => pr (.aB) [v11] k) fun v12 =>
 gd v10 false (fun k => pr (.aB) [x1] k) fun bX =>
 gd v10 false (fun k => pr (.aH .gtr) [v12, bX] k) fun cH =>
 pr (.pick) [v10, (.bool true), cH] fun cj =>
 GQ w0 E R v1 x1 cj
def Pb (w0 : World) (E R : Value → W) (x0 x1 : Value) : W :=
 pr (.box 79) [x0] fun v1 =>
 pr (.fieldAddr 0) [v1] fun v2 =>
 pr (.aB) [v2] fun v3 =>
 pr (.aH .lss) [v3, (vi 0)] fun v4 =>
 gd v4 false (fun k => pr (.fieldAddr 0) [v1] k) fun v5 =>
 gd v4 false (fun k => pr (.aB) [v5] k) fun v6 =>
 gd v4 false (fun k => pr (.fieldAddr 1) [v1] k) fun v7 =>
 gd v4 false (fun k => pr (.aB) [v7] k) fun v8 =>
 gd v4 false (fun k => pr (.aH .geq) [v6, v8] k) fun v9 =>
 pr (.pick) [v4, (.bool true), v9] fun v10 =>
 GR w0 E R v1 x1 v10
theorem XX {w0 : World} {h : AH} {Q : CR → AH → Prop} (x0 x1 : Value) (H : Pb w0 (fun v h => Q (.az v) h) (fun v h => Q (.ret v) h) x0 x1 h) : WF PP w0 Ck [x0, x1] h Q :=
 eJ bt XY [] (by kernel_rfl) (Eq.mp (by kernel_rfl) H)
def Pc (w0 : World) (E R : Value → W) (x0 x1 : Value) : W :=
 cl PP w0 Cg [x0, x1] E fun v1 =>
 pr (.aH .geq) [v1, (vi 0)] fun v2 =>
 R v2
theorem XZ {w0 : World} {h : AH} {Q : CR → AH → Prop} (x0 x1 : Value) (H : Pc w0 (fun v h => Q (.az v) h) (fun v h => Q (.ret v) h) x0 x1 h) : WF PP w0 GS [x0, x1] h Q :=
 eJ bt X0 [] (by kernel_rfl) (Eq.mp (by kernel_rfl) H)
def GU (w0 : World) (E R : Value → W) (v1 v5 : Value) : W :=
 pr (.fieldAddr 6) [v1] fun v7 =>
 pr (.aB) [v7] fun v8 =>
 pr (.tx (.func Ck) 0) [v5] fun v9 =>
 cl PP w0 GS [v8, v9] E fun v10 =>
 pr (.eL) [v10] fun v11 =>
 R v11
def GV (w0 : World) (E R : Value → W) (bR : Value) (iR : Value → W) : W :=
 pr (.aH .add) [bR, (vi 1)] fun ch =>
 iR ch
def GW (w0 : World) (E R : Value → W) (bR : Value) (iR : Value → W) (jq : Value) : W :=
 br jq (
 R (.bool false)) (
 GV w0 E R bR iR)
def GX (w0 : World) (E R : Value → W) (bX bR v5 : Value) (iR : Value → W) : W :=
 pr (.di 4) [bX, bR] fun fb =>
 pr (.bB 4) [fb] fun v20 =>
 pr (.alloc 67 [(vi 0), (vi 0), (vi 0), (vi 0)]) [] fun v21 =>
 pr (.store 4) [v21, v20] fun dV =>
 pr (.fieldAddr 0) [v21] fun fk =>
 pr (.aB) [fk] fun v24 =>
 cl PP w0 rf [v24] E fun fD =>
 pr (.extract 0) [fD] fun iy =>
 pr (.extract 1) [fD] fun gC =>
 pr (.alloc 138 [(bs []), (vi 0), (vi 0), (vi 0), (vi 0), (vi 0), (vi 0), (.bool false), (.bool false)]) [] fun v28 =>
 pr (.store 9) [v28, iy] fun cd =>
 pr (.eL) [gC] fun v30 =>
 gd v30 false (fun k => pr (.bB 4) [v21] k) fun v31 =>
 gd v30 false (fun k => cl PP w0 Cd [v31] E k) fun iz =>
 gd v30 false (fun k => pr (.tx (.func Cj) 0) [v5] k) fun nw =>
 gd v30 false (fun k => cl PP w0 GF [iz, nw] E k) fun kG =>
 pr (.pick) [v30, (.bool true), kG] fun jq =>
 GW w0 E R bR iR jq
def Cl (w0 : World) (E R : Value → W) (cH bX v5 v1 : Value) (iR : Value → W) (bR : Value) : W :=
 pr (.aH .lss) [bR, cH] fun eK =>
 br eK (
 GX w0 E R bX bR v5 iR) (
 GU w0 E R v1 v5)
def GY (w0 : World) (E R : Value → W) (v1 v5 : Value) : W :=
 pr (.fieldAddr 5) [v1] fun v12 =>
 pr (.aB) [v12] fun bX =>
 pr (.cW) [bX] fun cH =>
 LP (α := Value) (fun k a => Cl w0 E R cH bX v5 v1 k a) ((vi 0))
def GZ (w0 : World) (E R : Value → W) (v1 v5 v53 : Value) : W :=
 br v53 (
 R (.bool false)) (
 GY w0 E R v1 v5)
def G0 (w0 : World) (E R : Value → W) (v1 v5 fE : Value) : W :=
 gd fE false (fun k => pr (.fieldAddr 4) [v1] k) fun v49 =>
 gd fE false (fun k => pr (.aB) [v49] k) fun gY =>
 gd fE false (fun k => cl PP w0 pK [gY, (vi 0), (vi 200)] E k) fun v51 =>
 gd fE false (fun k => pr (.eL) [v51] k) fun kI =>
 pr (.pick) [fE, (.bool true), kI] fun v53 =>
 GZ w0 E R v1 v5 v53
def G1 (w0 : World) (E R : Value → W) (v1 v5 gD : Value) : W :=
 gd gD false (fun k => pr (.fieldAddr 3) [v1] k) fun nu =>
 gd gD false (fun k => pr (.aB) [nu] k) fun nv =>
 gd gD false (fun k => cl PP w0 pK [nv, (vi 0), (vi 200)] E k) fun v46 =>
 gd gD false (fun k => pr (.eL) [v46] k) fun eM =>
 pr (.pick) [gD, (.bool true), eM] fun fE =>
 G0 w0 E R v1 v5 fE
def Pd (w0 : World) (E R : Value → W) (x0 : Value) : W :=
 pr (.box 25) [x0] fun v1 =>
 pr (.fieldAddr 5) [v1] fun v2 =>
 pr (.aB) [v2] fun v3 =>
 pr (.cW) [v3] fun v4 =>
 pr (.alloc 3 [(vi 0)]) [] fun v5 =>
 pr (.store 1) [v5, v4] fun v6 =>
 pr (.aB) [v5] fun j2 =>
 cl PP w0 pK [j2, (vi 1), (vi 600)] E fun v37 =>
 pr (.eL) [v37] fun iQ =>
 gd iQ false (fun k => pr (.fieldAddr 6) [v1] k) fun kF =>
 gd iQ false (fun k => pr (.aB) [kF] k) fun v40 =>
 gd iQ false (fun k => pr (.cW) [v40] k) fun fS =>
 gd iQ false (fun k => pr (.aH .gtr) [fS, (vi 40)] k) fun mv =>
 pr (.pick) [iQ, (.bool true), mv] fun gD =>
 G1 w0 E R v1 v5 gD
theorem X1 {w0 : World} {h : AH} {Q : CR → AH → Prop} (x0 : Value) (H : Pd w0 (fun v h => Q (.az v) h) (fun v h => Q (.ret v) h) x0 h) : WF PP w0 vD [x0] h Q :=
 eJ bt X2 [[x8]] (by kernel_rfl) (Eq.mp (by kernel_rfl) H)
def G2 (w0 : World) (E R : Value → W)  : W :=
 R (vi (-1))
def G3 (w0 : World) (E R : Value → W) (y3 : Value) (k2 : Value → W) : W :=
 pr (.aH .add) [y3, (vi 1)] fun v5 =>
 k2 v5
def G4 (w0 : World) (E R : Value → W) (x0 y3 x1 : Value) (k2 : Value → W) : W :=
 pr (.di 1) [x0, y3] fun v6 =>
 pr (.aB) [v6] fun v7 =>
 pr (.aH .eql) [x1, v7] fun v8 =>
 br v8 (
 R y3) (
 G3 w0 E R y3 k2)
def Cm (w0 : World) (E R : Value → W) (v1 x0 x1 : Value) (k2 : Value → W) (y3 : Value) : W :=
 pr (.aH .lss) [y3, v1] fun v4 =>
 br v4 (
 G4 w0 E R x0 y3 x1 k2) (
 G2 w0 E R )
def Pe (w0 : World) (E R : Value → W) (x0 x1 : Value) : W :=
 pr (.cW) [x0] fun v1 =>
 LP (α := Value) (fun k a => Cm w0 E R v1 x0 x1 k a) ((vi 0))
theorem X3 {w0 : World} {h : AH} {Q : CR → AH → Prop} (x0 x1 : Value) (H : Pe w0 (fun v h => Q (.az v) h) (fun v h => Q (.ret v) h) x0 x1 h) : WF PP w0 G5 [x0, x1] h Q :=
 eJ bt X4 [[s8]] (by kernel_rfl) (Eq.mp (by kernel_rfl) H)
def Pf (w0 : World) (E R : Value → W) (x0 x1 : Value) : W :=
 cl PP w0 G5 [x0, x1] E fun v1 =>
 pr (.aH .geq) [v1, (vi 0)] fun v2 =>
 R v2
theorem X5 {w0 : World} {h : AH} {Q : CR → AH → Prop} (x0 x1 : Value) (H : Pf w0 (fun v h => Q (.az v) h) (fun v h => Q (.ret v) h) x0 x1 h) : WF PP w0 G6 [x0, x1] h Q :=
 eJ bt X6 [] (by kernel_rfl) (Eq.mp (by kernel_rfl) H)
def Cn (w0 : World) (E R : Value → W) (v3 : Value) (d4 : List Nat) : W :=
 pr (.aB) [v3] fun v5 =>
 iS (d4) (
 R v5)
def Co (w0 : World) (E R : Value → W) (v3 : Value) (o8 : LO) (n9 : Nat) (ar aN : Value) : W :=
 pM o8 n9 (
 lS o8 n9 (
 pr (.aB) [v3] fun cj =>
 cl PP w0 G6 [cj, ar] lT fun eU =>
 pr (.eL) [eU] fun eK =>
 br eK (
 pr (.aB) [v3] fun ch =>
 pr (.buildSlice 3 1 [(vi 0)] [(0,1)]) [ar] fun fb =>
 pr (.append 3 1 [(vi 0)]) [ch, fb] fun v20 =>
 pr (.store 1) [v3, v20] fun v21 =>
 iT o8 n9 .ready none true R) (
 iT o8 n9 .ready none true R)))
def Cp (w0 : World) (E R : Value → W) (v1 x1 : Value) (d2 : List Nat) : W :=
 pr (.alloc 28 [cP]) [] fun v3 =>
 pr (.bB 7) [v1] fun v6 =>
 cl PP w0 x7 [v6, x1] (cE (d2) E) fun v7 =>
 vE PP w0 v7 (fun o8 n9 Pg R => x9 (fun ar aN => Co w0 lT R v3 o8 n9 ar aN) Pg) (fun ny => cE (ny :: d2) E) (fun ny X7 => rh X7 (
 Cn w0 E R v3 (ny :: d2)) (
 (fun _ => False)) [])
def Cq (w0 : World) (E R : Value → W) (v1 x1 iz : Value) : W :=
 br iz (
 iS (([] : List Nat)) (
 R cP)) (
 Cp w0 E R v1 x1 (([] : List Nat)))
def Ph (w0 : World) (E R : Value → W) (x0 x1 : Value) : W :=
 pr (.box 25) [x0] fun v1 =>
 pr (.bB 7) [v1] fun dV =>
 cl PP w0 vD [dV] (cE (([] : List Nat)) E) fun fk =>
 pr (.eL) [fk] fun v24 =>
 gd v24 false (fun k => k x1) fun fD =>
 gd v24 false (fun k => pr (.fieldAddr 5) [v1] k) fun iy =>
 gd v24 false (fun k => pr (.aB) [iy] k) fun gC =>
 gd v24 false (fun k => pr (.cW) [gC] k) fun v28 =>
 gd v24 false (fun k => pr (.aH .sub) [v28, (vi 1)] k) fun cd =>
 gd v24 false (fun k => cl PP w0 pK [fD, (vi 0), cd] (cE (([] : List Nat)) E) k) fun v30 =>
 gd v24 false (fun k => pr (.eL) [v30] k) fun v31 =>
 pr (.pick) [v24, (.bool true), v31] fun iz =>
 Cq w0 E R v1 x1 iz
theorem X8 {w0 : World} {h : AH} {Q : CR → AH → Prop} (x0 : Value) (x1 : Value) (H : Ph w0 (fun v h => Q (.az v) h) (fun v h => Q (.ret v) h) x0 x1 h) : WF PP w0 G7 [x0, x1] h Q := by
 let E : Value → W := fun v h => Q (.az v) h
 let R : Value → W := fun v h => Q (.ret v) h
 refine Cr bt X9 ?_
 refine ee ?_
 refine dm ?_
 refine aV (vs := [x0]) (by kernel_rfl) H fun v1 h H => ?_
 refine fe (v := cP) (by kernel_rfl) ?_
 refine dq ?_
 refine ef ?_
 refine ri (rs := ([] : List Nat)) (α := Unit) [(s1, x1), (s2, v1)] (fun a => []) (fun σ => ()) (fun a q => Cp w0 E R v1 x1  q) (fun σ => trivial) (fun a1 d2 σ h H => ?_) ?_
 · refine ee ?_
   refine dm ?_
   refine aV (vs := []) (by kernel_rfl) H fun v3 h H => ?_
   refine dq ?_
   refine ef ?_
   refine ri (rs := d2) (α := Unit) [(s5, v3)] (fun a => []) (fun σ => ()) (fun a q => Cn w0 E R v3  q) (fun σ => trivial) (fun a2 d4 σ h H => ?_) ?_
   · refine ee ?_
     refine dm ?_
     refine aV (vs := [v3]) (by kernel_rfl) H fun v5 h H => ?_
     refine fe (v := v5) (by kernel_rfl) ?_
     refine dq ?_
     refine ef ?_
     exact ya (P := PP) (w0 := w0) tA.results Q (d4) (by kernel_rfl) (Eq.mp (by kernel_rfl) H)
   · refine ee ?_
     refine dm ?_
     refine aV (vs := [v1]) (by kernel_rfl) H fun v6 h H => ?_
     refine fe (v := x1) (by kernel_rfl) ?_
     refine vF (vs := [v6, x1]) (by kernel_rfl) H (fun _ _ H => pN (P := PP) (w0 := w0) tA.results Q (d2) (by kernel_rfl) H) fun v7 h H => ?_
     refine dq ?_
     refine ef ?_
     refine mw ?_
     refine G8 bt (rs := d2) _ _ _ _ _ (fv := v7) (by kernel_rfl) H (fun ny _ _ H => pN (P := PP) (w0 := w0) tA.results Q (ny :: d2) (by kernel_rfl) H) (fun ny h H => ?_) (fun ny h H => ?_) (fun ny => trivial) (fun o8 Pj n9 Pg R h H => ?_)
     · refine nz ?_
       exact Exists.intro (ny :: d2) (Eq.mp (by kernel_rfl) (And.intro (Eq.refl (fT (ny :: d2))) (And.intro (And.intro (Eq.refl (v3 : Value)) trivial) H)))
     · exact False.elim H
     · obtain ⟨ar, aN, rfl, H⟩ := G9 H
       let E : Value → W := lT
       have H2 := Ha H
       refine ⟨H2.1, rfl, ?_⟩
       have H := H2.2
       refine dm ?_
       refine fe (v := ar) (by kernel_rfl) ?_
       refine dq ?_
       refine Hb H (fun h H => ?_)
       refine mw ?_
       refine ee ?_
       refine dm ?_
       refine aV (vs := [v3]) (by kernel_rfl) H fun cj h H => ?_
       refine fe (v := ar) (by kernel_rfl) ?_
       refine vF (vs := [cj, ar]) (by kernel_rfl) H (fun _ _ H => False.elim H) fun eU h H => ?_
       refine aV (vs := [eU]) (by kernel_rfl) H fun eK h H => ?_
       refine dq ?_
       refine ef ?_
       refine pO (v := eK) (by kernel_rfl) H (fun H => ?_) (fun H => ?_)
       · refine dm ?_
         refine aV (vs := [v3]) (by kernel_rfl) H fun ch h H => ?_
         refine fe (v := ar) (by kernel_rfl) ?_
         refine aV (vs := [ar]) (by kernel_rfl) H fun fb h H => ?_
         refine aV (vs := [ch, fb]) (by kernel_rfl) H fun v20 h H => ?_
         refine aV (vs := [v3, v20]) (by kernel_rfl) H fun v21 h H => ?_
         refine dq ?_
         refine nz ?_
         exact Eq.mp (by kernel_rfl) (And.intro (Eq.refl ([] : List eg)) H)
       · refine rj ?_
         refine nz ?_
         exact Eq.mp (by kernel_rfl) (And.intro (Eq.refl ([] : List eg)) H)
 · refine ee ?_
   refine dm ?_
   refine aV (vs := [v1]) (by kernel_rfl) H fun dV h H => ?_
   refine vF (vs := [dV]) (by kernel_rfl) H (fun _ _ H => pN (P := PP) (w0 := w0) tA.results Q (([] : List Nat)) (by kernel_rfl) H) fun fk h H => ?_
   refine aV (vs := [fk]) (by kernel_rfl) H fun v24 h H => ?_
   refine fe (v := v24) (by kernel_rfl) ?_
   refine Pk (v := x1) (gv := v24) (by kernel_rfl) (by kernel_rfl) H fun fD h H => ?_
   refine nA (vs := [v1]) (gv := v24) (by kernel_rfl) (by kernel_rfl) H fun iy h H => ?_
   refine nA (vs := [iy]) (gv := v24) (by kernel_rfl) (by kernel_rfl) H fun gC h H => ?_
   refine nA (vs := [gC]) (gv := v24) (by kernel_rfl) (by kernel_rfl) H fun v28 h H => ?_
   refine nA (vs := [v28, (vi 1)]) (gv := v24) (by kernel_rfl) (by kernel_rfl) H fun cd h H => ?_
   refine Pl (vs := [fD, (vi 0), cd]) (gv := v24) (by kernel_rfl) (by kernel_rfl) H (fun _ _ H => pN (P := PP) (w0 := w0) tA.results Q (([] : List Nat)) (by kernel_rfl) H) fun v30 h H => ?_
   refine nA (vs := [v30]) (gv := v24) (by kernel_rfl) (by kernel_rfl) H fun v31 h H => ?_
   refine aV (vs := [v24, (.bool true), v31]) (by kernel_rfl) H fun iz h H => ?_
   unfold Cq at H
   refine dq ?_
   refine ef ?_
   refine pO (v := iz) (by kernel_rfl) H (fun H => ?_) (fun H => ?_)
   · refine ee ?_
     refine dm ?_
     refine fe (v := cP) (by kernel_rfl) ?_
     refine dq ?_
     refine ef ?_
     exact ya (P := PP) (w0 := w0) tA.results Q (([] : List Nat)) (by kernel_rfl) (Eq.mp (by kernel_rfl) H)
   · refine rj ?_
     exact Exists.intro (([] : List Nat)) (Eq.mp (by kernel_rfl) (And.intro (Eq.refl (fT (([] : List Nat)))) (And.intro (And.intro (Eq.refl (x1 : Value)) (And.intro (Eq.refl (v1 : Value)) trivial)) H)))
def Hc (w0 : World) (E R : Value → W) (y9 : Value) : W :=
 R y9
def Cs (w0 : World) (E R : Value → W) (aN : Value) (dk : Value → Value → W) (bR : Value) : W :=
 pr (.aH .add) [aN, (vi 1)] fun eK =>
 dk bR eK
def Hd (w0 : World) (E R : Value → W) (v1 ch ar aN : Value) (dk : Value → Value → W) (v28 : Value) : W :=
 br v28 (
 pr (.bB 4) [v1] fun cd =>
 cl PP w0 vC [cd] E fun v30 =>
 pr (.aH .sub) [ch, (vi 1)] fun v31 =>
 pr (.pL 3) [v30, v31] fun iz =>
 pr (.buildSlice 3 1 [(vi 0)] [(0,1)]) [iz] fun nw =>
 pr (.append 3 1 [(vi 0)]) [ar, nw] fun kG =>
 Cs w0 E R aN dk kG) (
 Cs w0 E R aN dk ar)
def He (w0 : World) (E R : Value → W) (v1 ch ar aN : Value) (dk : Value → Value → W) (v21 : Value) : W :=
 gd v21 true (fun k => pr (.bB 4) [v1] k) fun dV =>
 gd v21 true (fun k => cl PP w0 vC [dV] E k) fun fk =>
 gd v21 true (fun k => k ch) fun v24 =>
 gd v21 true (fun k => pr (.aH .sub) [v24, (vi 1)] k) fun fD =>
 gd v21 true (fun k => pr (.pL 3) [fk, fD] k) fun iy =>
 gd v21 true (fun k => pr (.aH .neq) [iy, (vi (-1))] k) fun gC =>
 pr (.pick) [v21, gC, (.bool false)] fun v28 =>
 Hd w0 E R v1 ch ar aN dk v28
def Hf (w0 : World) (E R : Value → W) (v11 aN v6 v1 ar : Value) (dk : Value → Value → W) : W :=
 pr (.pL 2) [v11, aN] fun ch =>
 gd v6 true (fun k => k ch) fun fb =>
 gd v6 true (fun k => pr (.aH .gtr) [fb, (vi 0)] k) fun v20 =>
 pr (.pick) [v6, v20, (.bool false)] fun v21 =>
 He w0 E R v1 ch ar aN dk v21
def Ct (w0 : World) (E R : Value → W) (v11 v6 v1 : Value) (dk : Value → Value → W) (ar aN : Value) : W :=
 pr (.aH .lss) [aN, (vi 2)] fun cj =>
 br cj (
 Hf w0 E R v11 aN v6 v1 ar dk) (
 Hc w0 E R  ar)
def Pm (w0 : World) (E R : Value → W) (x0 : Value) : W :=
 pr (.box 67) [x0] fun v1 =>
 pr (.fieldAddr 0) [v1] fun v2 =>
 pr (.aB) [v2] fun v3 =>
 cl PP w0 rf [v3] E fun v4 =>
 pr (.extract 0) [v4] fun v5 =>
 pr (.extract 1) [v4] fun v6 =>
 pr (.alloc 138 [(bs []), (vi 0), (vi 0), (vi 0), (vi 0), (vi 0), (vi 0), (.bool false), (.bool false)]) [] fun v7 =>
 pr (.store 9) [v7, v5] fun v8 =>
 pr (.fieldAddr 5) [v7] fun v10 =>
 pr (.bB 2) [v10] fun v11 =>
 LP (α := Value × Value) (fun k a => Ct w0 E R v11 v6 v1 (fun b0 b1 => k (b0, b1)) a.1 a.2) (cP, (vi 0))
theorem Ya {w0 : World} {h : AH} {Q : CR → AH → Prop} (x0 : Value) (H : Pm w0 (fun v h => Q (.az v) h) (fun v h => Q (.ret v) h) x0 h) : WF PP w0 Cu [x0] h Q :=
 eJ bt Yb [[s5, oG]] (by kernel_rfl) (Eq.mp (by kernel_rfl) H)
def Yc (w0 : World) (E R : Value → W) (y1 : Value) : W :=
 cl PP w0 Pn [y1] E fun v2 =>
 R y1
def Yd (w0 : World) (E R : Value → W) (v3 y5 : Value) (k4 : Value → W) : W :=
 pr (.x .entry) [v3] fun v8 =>
 pr (.extract 0) [v8] fun v9 =>
 pr (.buildSlice 3 1 [(vi 0)] [(0,1)]) [v9] fun v10 =>
 pr (.append 3 1 [(vi 0)]) [y5, v10] fun v11 =>
 k4 v11
def Ye (w0 : World) (E R : Value → W) (v3 : Value) (k4 : Value → W) (y5 : Value) : W :=
 pr (.x .tB) [v3] fun v6 =>
 pr (.extract 0) [v6] fun v7 =>
 br v7 (
 Yd w0 E R v3 y5 k4) (
 Yc w0 E R  y5)
def Po (w0 : World) (E R : Value → W) (x0 : Value) : W :=
 pr (.x .yb) [x0] fun v3 =>
 LP (α := Value) (fun k a => Ye w0 E R v3 k a) (cP)
theorem Yf {w0 : World} {h : AH} {Q : CR → AH → Prop} (x0 : Value) (H : Po w0 (fun v h => Q (.az v) h) (fun v h => Q (.ret v) h) x0 h) : WF PP w0 Cv [x0] h Q :=
 eJ bt Yg [[s3]] (by kernel_rfl) (Eq.mp (by kernel_rfl) H)
def Hg (w0 : World) (E R : Value → W) (v1 v7 : Value) : W :=
 pr (.bB 4) [v1] fun v9 =>
 pr (.fieldAddr 4) [v7] fun v10 =>
 pr (.aB) [v10] fun v11 =>
 pr (.aH .sub) [v11, (vi 1)] fun v12 =>
 cl PP w0 vC [v9] E fun bX =>
 ck (.aH .sub) [v11, (vi 1)] v12 (
 ck (.aB) [v10] v11 (
 ck (.fieldAddr 4) [v7] v10 (
 pr (.pL 3) [bX, v12] fun cH =>
 R cH)))
def Pp (w0 : World) (E R : Value → W) (x0 : Value) : W :=
 pr (.box 67) [x0] fun v1 =>
 pr (.fieldAddr 0) [v1] fun v2 =>
 pr (.aB) [v2] fun v3 =>
 cl PP w0 rf [v3] E fun v4 =>
 pr (.extract 0) [v4] fun v5 =>
 pr (.extract 1) [v4] fun v6 =>
 pr (.alloc 138 [(bs []), (vi 0), (vi 0), (vi 0), (vi 0), (vi 0), (vi 0), (.bool false), (.bool false)]) [] fun v7 =>
 pr (.store 9) [v7, v5] fun v8 =>
 pr (.fieldAddr 4) [v7] fun cj =>
 pr (.aB) [cj] fun eU =>
 pr (.aH .eql) [eU, (vi 0)] fun eK =>
 br eK (
 R (vi (-1))) (
 Hg w0 E R v1 v7)
theorem Yh {w0 : World} {h : AH} {Q : CR → AH → Prop} (x0 : Value) (H : Pp w0 (fun v h => Q (.az v) h) (fun v h => Q (.ret v) h) x0 h) : WF PP w0 Cw [x0] h Q :=
 eJ bt Yi [] (by kernel_rfl) (Eq.mp (by kernel_rfl) H)
def Hh (w0 : World) (E R : Value → W) (v5 : Value) (d8 : List Nat) : W :=
 pr (.aB) [v5] fun v9 =>
 iS (d8) (
 R v9)
def Hi (w0 : World) (E R : Value → W) (tC : Value) (yc : Value → List Nat → W) (d22 : List Nat) : W :=
 pr (.aH .add) [tC, (vi 1)] fun fk =>
 yc fk (d22)
def Hj (w0 : World) (E R : Value → W) (cj tC v5 : Value) (yc : Value → List Nat → W) (d21 : List Nat) : W :=
 pr (.di 1) [cj, tC] fun v24 =>
 pr (.aB) [v24] fun fD =>
 pr (.aB) [v5] fun iy =>
 pr (.nB 0) [iy, fD, (.bool true)] fun gC =>
 Hi w0 E R tC yc (d21)
def tD (w0 : World) (E R : Value → W) (eU cj v5 : Value) (yc : Value → List Nat → W) (tC : Value) (d19 : List Nat) : W :=
 pr (.aH .lss) [tC, eU] fun v20 =>
 br v20 (
 Hj w0 E R cj tC v5 yc (d19)) (
 Hh w0 E R v5 (d19))
def Hk (w0 : World) (E R : Value → W) (v1 v2 v5 : Value) (d7 : List Nat) : W :=
 pr (.fieldAddr 5) [v1] fun v10 =>
 pr (.aB) [v10] fun v11 =>
 pr (.aB) [v2] fun v12 =>
 pr (.di 4) [v11, v12] fun bX =>
 pr (.bB 4) [bX] fun cH =>
 cl PP w0 Cu [cH] (cE (d7) E) fun cj =>
 pr (.cW) [cj] fun eU =>
 LP (α := (Value) × List Nat) (fun k a => tD w0 E R eU cj v5 (fun b0 q => k ((b0), q)) a.1 a.2) (((vi 0)), d7)
def Cy (w0 : World) (E R : Value → W) (fS iU v1 v2 v5 : Value) (Cz : W) : W :=
 pr (.x .entry) [fS] fun nv =>
 pr (.extract 0) [nv] fun v46 =>
 pr (.aH .eql) [iU, (vi 2)] fun eM =>
 gd eM false (fun k => k v46) fun fE =>
 gd eM false (fun k => pr (.fieldAddr 5) [v1] k) fun v49 =>
 gd eM false (fun k => pr (.aB) [v49] k) fun gY =>
 gd eM false (fun k => pr (.aB) [v2] k) fun v51 =>
 gd eM false (fun k => pr (.di 4) [gY, v51] k) fun kI =>
 gd eM false (fun k => pr (.bB 4) [kI] k) fun v53 =>
 gd eM false (fun k => cl PP w0 Cw [v53] lT k) fun oH =>
 gd eM false (fun k => pr (.aH .neq) [fE, oH] k) fun kH =>
 pr (.pick) [eM, (.bool true), kH] fun nC =>
 br nC (
 pr (.aB) [v5] fun lU =>
 pr (.nB 0) [lU, v46, (.bool true)] fun rk =>
 Cz) (
 Cz)
def Pq (w0 : World) (E R : Value → W) (fS iU v1 v2 v5 : Value) (pP : LO) (pQ : Nat) (Cz : W) : W :=
 pr (.x .tB) [fS] fun gD =>
 pr (.extract 0) [gD] fun nu =>
 br nu (
 Cy w0 E R fS iU v1 v2 v5 Cz) (
 iT pP pQ .ready none true R)
def Hl (w0 : World) (E R : Value → W) (v3 v1 v2 v5 : Value) (pP : LO) (pQ : Nat) (tE iU : Value) : W :=
 pM pP pQ (
 lS pP pQ (
 pr (.aB) [v3] fun iQ =>
 pr (.di 1) [iQ, tE] fun kF =>
 pr (.aB) [kF] fun v40 =>
 pr (.x .yb) [v40] fun fS =>
 LP (α := Unit) (fun k a => Pq w0 E R fS iU v1 v2 v5 pP pQ (k ()) ) ()))
def Ps (w0 : World) (E R : Value → W) (x0 x1 x2 : Value) : W :=
 pr (.box 25) [x0] fun v1 =>
 pr (.box 3) [x1] fun v2 =>
 pr (.box 101) [x2] fun v3 =>
 pr (.mkMap) [] fun v4 =>
 pr (.alloc 102 [(.map none)]) [] fun v5 =>
 pr (.store 1) [v5, v4] fun v6 =>
 pr (.bB 7) [v1] fun v28 =>
 pr (.aB) [v2] fun cd =>
 cl PP w0 x7 [v28, cd] (cE (([] : List Nat)) E) fun v30 =>
 vE PP w0 v30 (fun pP pQ Pt R => x9 (fun tE iU => Hl w0 lT R v3 v1 v2 v5 pP pQ tE iU) Pt) (fun oI => cE (oI :: ([] : List Nat)) E) (fun oI Yj => rh Yj (
 Hk w0 E R v1 v2 v5 (oI :: ([] : List Nat))) (
 (fun _ => False)) [])
theorem Yk {w0 : World} {h : AH} {Q : CR → AH → Prop} (x0 : Value) (x1 : Value) (x2 : Value) (H : Ps w0 (fun v h => Q (.az v) h) (fun v h => Q (.ret v) h) x0 x1 x2 h) : WF PP w0 Hm [x0, x1, x2] h Q := by
 let E : Value → W := fun v h => Q (.az v) h
 let R : Value → W := fun v h => Q (.ret v) h
 refine Cr bt Yl ?_
 refine ee ?_
 refine dm ?_
 refine aV (vs := [x0]) (by kernel_rfl) H fun v1 h H => ?_
 refine aV (vs := [x1]) (by kernel_rfl) H fun v2 h H => ?_
 refine aV (vs := [x2]) (by kernel_rfl) H fun v3 h H => ?_
 refine fe (v := (.map none)) (by kernel_rfl) ?_
 refine dq ?_
 refine ef ?_
 refine ee ?_
 refine dm ?_
 refine aV (vs := []) (by kernel_rfl) H fun v4 h H => ?_
 refine aV (vs := []) (by kernel_rfl) H fun v5 h H => ?_
 refine aV (vs := [v5, v4]) (by kernel_rfl) H fun v6 h H => ?_
 refine dq ?_
 refine ef ?_
 refine ri (rs := ([] : List Nat)) (α := Unit) [(s3, v1), (s4, v2), (s7, v5)] (fun a => []) (fun σ => ()) (fun a q => Hk w0 E R v1 v2 v5  q) (fun σ => trivial) (fun a1 d7 σ h H => ?_) ?_
 · refine ri (rs := d7) (α := Unit) [(s7, v5)] (fun a => []) (fun σ => ()) (fun a q => Hh w0 E R v5  q) (fun σ => trivial) (fun a2 d8 σ h H => ?_) ?_
   · refine ee ?_
     refine dm ?_
     refine aV (vs := [v5]) (by kernel_rfl) H fun v9 h H => ?_
     refine fe (v := v9) (by kernel_rfl) ?_
     refine dq ?_
     refine ef ?_
     exact ya (P := PP) (w0 := w0) yd.results Q (d8) (by kernel_rfl) (Eq.mp (by kernel_rfl) H)
   · refine ee ?_
     refine dm ?_
     refine aV (vs := [v1]) (by kernel_rfl) H fun v10 h H => ?_
     refine aV (vs := [v10]) (by kernel_rfl) H fun v11 h H => ?_
     refine aV (vs := [v2]) (by kernel_rfl) H fun v12 h H => ?_
     refine aV (vs := [v11, v12]) (by kernel_rfl) H fun bX h H => ?_
     refine aV (vs := [bX]) (by kernel_rfl) H fun cH h H => ?_
     refine vF (vs := [cH]) (by kernel_rfl) H (fun _ _ H => pN (P := PP) (w0 := w0) yd.results Q (d7) (by kernel_rfl) H) fun cj h H => ?_
     refine aV (vs := [cj]) (by kernel_rfl) H fun eU h H => ?_
     refine fe (v := (vi 0)) (by kernel_rfl) ?_
     refine dq ?_
     refine ef ?_
     refine mw ?_
     refine Pu bt (rs := d7) (α := Value) [(s7, v5), (rl, cj), (tG, eU)] (fun a => [(nD, a)]) (fun σ => (σ nD)) (fun k a => tD w0 E R eU cj v5 (fun b0 q => k ((b0), q)) a.1 a.2) (fun σ => (And.intro rfl trivial)) (fun Pv a3 d19 σ h H => ?_) (x := ((vi 0))) (by kernel_rfl) (Eq.mp (by kernel_rfl) (And.intro (Eq.refl (v5 : Value)) (And.intro (Eq.refl (cj : Value)) (And.intro (Eq.refl (eU : Value)) trivial)))) H
     refine ee ?_
     refine dm ?_
     refine aV (vs := [a3, eU]) (by kernel_rfl) H fun v20 h H => ?_
     refine dq ?_
     refine ef ?_
     refine ri (rs := d19) (α := Unit) [(s7, v5), (rl, cj), (tG, eU), (nD, a3)] (fun a => []) (fun σ => ()) (fun a q => Hj w0 E R cj a3 v5 (fun b0 q => Pv ((b0), q))  q) (fun σ => trivial) (fun a4 d21 σ h H => ?_) ?_
     · refine ri (rs := d21) (α := Unit) [(s7, v5), (rl, cj), (tG, eU), (nD, a3)] (fun a => []) (fun σ => ()) (fun a q => Hi w0 E R a3 (fun b0 q => Pv ((b0), q))  q) (fun σ => trivial) (fun a5 d22 σ h H => ?_) ?_
       · refine dm ?_
         refine aV (vs := [a3, (vi 1)]) (by kernel_rfl) H fun fk h H => ?_
         refine fe (v := fk) (by kernel_rfl) ?_
         refine dq ?_
         exact Exists.intro (d22) (Eq.mp (by kernel_rfl) (And.intro (Eq.refl (fT (d22))) (And.intro (And.intro (Eq.refl (v5 : Value)) (And.intro (Eq.refl (cj : Value)) (And.intro (Eq.refl (eU : Value)) trivial))) H)))
       · refine mw ?_
         refine ee ?_
         refine dm ?_
         refine aV (vs := [cj, a3]) (by kernel_rfl) H fun v24 h H => ?_
         refine aV (vs := [v24]) (by kernel_rfl) H fun fD h H => ?_
         refine fe (v := fD) (by kernel_rfl) ?_
         refine dq ?_
         refine ef ?_
         refine dm ?_
         refine aV (vs := [v5]) (by kernel_rfl) H fun iy h H => ?_
         refine fe (v := fD) (by kernel_rfl) ?_
         refine aV (vs := [iy, fD, (.bool true)]) (by kernel_rfl) H fun gC h H => ?_
         refine dq ?_
         refine nz ?_
         exact Exists.intro (d21) (Eq.mp (by kernel_rfl) (And.intro (Eq.refl (fT (d21))) (And.intro (And.intro (Eq.refl (v5 : Value)) (And.intro (Eq.refl (cj : Value)) (And.intro (Eq.refl (eU : Value)) (And.intro (Eq.refl (a3 : Value)) trivial)))) H)))
     · refine pO (v := v20) (by kernel_rfl) H (fun H => ?_) (fun H => ?_)
       · refine rj ?_
         exact Exists.intro (d19) (Eq.mp (by kernel_rfl) (And.intro (Eq.refl (fT (d19))) (And.intro (And.intro (Eq.refl (v5 : Value)) (And.intro (Eq.refl (cj : Value)) (And.intro (Eq.refl (eU : Value)) (And.intro (Eq.refl (a3 : Value)) trivial)))) H)))
       · exact Exists.intro (d19) (Eq.mp (by kernel_rfl) (And.intro (Eq.refl (fT (d19))) (And.intro (And.intro (Eq.refl (v5 : Value)) trivial) H)))
 · refine ee ?_
   refine dm ?_
   refine aV (vs := [v1]) (by kernel_rfl) H fun v28 h H => ?_
   refine aV (vs := [v2]) (by kernel_rfl) H fun cd h H => ?_
   refine vF (vs := [v28, cd]) (by kernel_rfl) H (fun _ _ H => pN (P := PP) (w0 := w0) yd.results Q (([] : List Nat)) (by kernel_rfl) H) fun v30 h H => ?_
   refine dq ?_
   refine ef ?_
   refine mw ?_
   refine G8 bt (rs := ([] : List Nat)) _ _ _ _ _ (fv := v30) (by kernel_rfl) H (fun oI _ _ H => pN (P := PP) (w0 := w0) yd.results Q (oI :: ([] : List Nat)) (by kernel_rfl) H) (fun oI h H => ?_) (fun oI h H => ?_) (fun oI => trivial) (fun pP Pj pQ Pt R h H => ?_)
   · refine nz ?_
     exact Exists.intro (oI :: ([] : List Nat)) (Eq.mp (by kernel_rfl) (And.intro (Eq.refl (fT (oI :: ([] : List Nat)))) (And.intro (And.intro (Eq.refl (v1 : Value)) (And.intro (Eq.refl (v2 : Value)) (And.intro (Eq.refl (v5 : Value)) trivial))) H)))
   · exact False.elim H
   · obtain ⟨tE, iU, rfl, H⟩ := G9 H
     let E : Value → W := lT
     have H2 := Ha H
     refine ⟨H2.1, rfl, ?_⟩
     have H := H2.2
     refine ee ?_
     refine dm ?_
     refine fe (v := tE) (by kernel_rfl) ?_
     refine dq ?_
     refine ef ?_
     refine dm ?_
     refine fe (v := iU) (by kernel_rfl) ?_
     refine dq ?_
     refine Hb H (fun h H => ?_)
     refine mw ?_
     refine ee ?_
     refine dm ?_
     refine aV (vs := [v3]) (by kernel_rfl) H fun iQ h H => ?_
     refine fe (v := tE) (by kernel_rfl) ?_
     refine aV (vs := [iQ, tE]) (by kernel_rfl) H fun kF h H => ?_
     refine aV (vs := [kF]) (by kernel_rfl) H fun v40 h H => ?_
     refine aV (vs := [v40]) (by kernel_rfl) H fun fS h H => ?_
     refine dq ?_
     refine ef ?_
     refine mw ?_
     refine Ym bt (α := Unit) [(s3, v1), (s4, v2), (s7, v5), (s9, iU), (oJ, fS)] (fun a => []) (fun σ => ()) (fun k a => Pq w0 E R fS iU v1 v2 v5 pP pQ (k ()) ) (fun σ => trivial) (fun Yn a6 σ h H => ?_) (x := ()) (by kernel_rfl) (Eq.mp (by kernel_rfl) (And.intro (Eq.refl (v1 : Value)) (And.intro (Eq.refl (v2 : Value)) (And.intro (Eq.refl (v5 : Value)) (And.intro (Eq.refl (iU : Value)) (And.intro (Eq.refl (fS : Value)) trivial)))))) H
     refine ee ?_
     refine dm ?_
     refine aV (vs := [fS]) (by kernel_rfl) H fun gD h H => ?_
     refine aV (vs := [gD]) (by kernel_rfl) H fun nu h H => ?_
     refine dq ?_
     refine ef ?_
     refine Pw (α := Unit) [(s3, v1), (s4, v2), (s7, v5), (s9, iU), (oJ, fS)] (fun a => []) (fun σ => ()) (fun a => Cy w0 E R fS iU v1 v2 v5 (Yn ()) ) (fun σ => trivial) (fun a7 σ h H => ?_) ?_
     · refine mw ?_
       refine ee ?_
       refine dm ?_
       refine aV (vs := [fS]) (by kernel_rfl) H fun nv h H => ?_
       refine aV (vs := [nv]) (by kernel_rfl) H fun v46 h H => ?_
       refine fe (v := v46) (by kernel_rfl) ?_
       refine dq ?_
       refine ef ?_
       refine ee ?_
       refine dm ?_
       refine fe (v := iU) (by kernel_rfl) ?_
       refine aV (vs := [iU, (vi 2)]) (by kernel_rfl) H fun eM h H => ?_
       refine fe (v := eM) (by kernel_rfl) ?_
       refine Pk (v := v46) (gv := eM) (by kernel_rfl) (by kernel_rfl) H fun fE h H => ?_
       refine nA (vs := [v1]) (gv := eM) (by kernel_rfl) (by kernel_rfl) H fun v49 h H => ?_
       refine nA (vs := [v49]) (gv := eM) (by kernel_rfl) (by kernel_rfl) H fun gY h H => ?_
       refine nA (vs := [v2]) (gv := eM) (by kernel_rfl) (by kernel_rfl) H fun v51 h H => ?_
       refine nA (vs := [gY, v51]) (gv := eM) (by kernel_rfl) (by kernel_rfl) H fun kI h H => ?_
       refine nA (vs := [kI]) (gv := eM) (by kernel_rfl) (by kernel_rfl) H fun v53 h H => ?_
       refine Pl (vs := [v53]) (gv := eM) (by kernel_rfl) (by kernel_rfl) H (fun _ _ H => False.elim H) fun oH h H => ?_
       refine nA (vs := [fE, oH]) (gv := eM) (by kernel_rfl) (by kernel_rfl) H fun kH h H => ?_
       refine aV (vs := [eM, (.bool true), kH]) (by kernel_rfl) H fun nC h H => ?_
       refine dq ?_
       refine ef ?_
       refine pO (v := nC) (by kernel_rfl) H (fun H => ?_) (fun H => ?_)
       · refine dm ?_
         refine aV (vs := [v5]) (by kernel_rfl) H fun lU h H => ?_
         refine fe (v := v46) (by kernel_rfl) ?_
         refine aV (vs := [lU, v46, (.bool true)]) (by kernel_rfl) H fun rk h H => ?_
         refine dq ?_
         refine nz ?_
         exact Eq.mp (by kernel_rfl) (And.intro (Eq.refl (⟨[], .off⟩ : DS)) (And.intro (And.intro (Eq.refl (v1 : Value)) (And.intro (Eq.refl (v2 : Value)) (And.intro (Eq.refl (v5 : Value)) (And.intro (Eq.refl (iU : Value)) (And.intro (Eq.refl (fS : Value)) trivial))))) H))
       · refine rj ?_
         refine nz ?_
         exact Eq.mp (by kernel_rfl) (And.intro (Eq.refl (⟨[], .off⟩ : DS)) (And.intro (And.intro (Eq.refl (v1 : Value)) (And.intro (Eq.refl (v2 : Value)) (And.intro (Eq.refl (v5 : Value)) (And.intro (Eq.refl (iU : Value)) (And.intro (Eq.refl (fS : Value)) trivial))))) H))
     · refine pO (v := nu) (by kernel_rfl) H (fun H => ?_) (fun H => ?_)
       · refine rj ?_
         exact Eq.mp (by kernel_rfl) (And.intro (Eq.refl (⟨[], .off⟩ : DS)) (And.intro (And.intro (Eq.refl (v1 : Value)) (And.intro (Eq.refl (v2 : Value)) (And.intro (Eq.refl (v5 : Value)) (And.intro (Eq.refl (iU : Value)) (And.intro (Eq.refl (fS : Value)) trivial))))) H))
       · exact Eq.mp (by kernel_rfl) (And.intro (Eq.refl ([] : List eg)) H)
def Hn (w0 : World) (E R : Value → W) (y1 : Value) : W :=
 R y1
def Ho (w0 : World) (E R : Value → W) (y5 : Value) (k3 : Value → Value → W) (y7 : Value) : W :=
 pr (.aH .add) [y5, (vi 1)] fun v8 =>
 k3 y7 v8
def Hp (w0 : World) (E R : Value → W) (x0 y5 x1 y4 : Value) (k3 : Value → Value → W) : W :=
 pr (.di 1) [x0, y5] fun v9 =>
 pr (.aB) [v9] fun v10 =>
 dy PP w0 [x1, v10] E fun v11 =>
 pr (.buildSlice 28 1 [cP] [(0,1)]) [v11] fun v12 =>
 pr (.append 28 1 [cP]) [y4, v12] fun bX =>
 Ho w0 E R y5 k3 bX
def CA (w0 : World) (E R : Value → W) (v2 x0 x1 : Value) (k3 : Value → Value → W) (y4 y5 : Value) : W :=
 pr (.aH .lss) [y5, v2] fun v6 =>
 br v6 (
 Hp w0 E R x0 y5 x1 y4 k3) (
 Hn w0 E R  y4)
def Px (w0 : World) (E R : Value → W) (x0 x1 : Value) : W :=
 pr (.cW) [x0] fun v2 =>
 LP (α := Value × Value) (fun k a => CA w0 E R v2 x0 x1 (fun b0 b1 => k (b0, b1)) a.1 a.2) (cP, (vi 0))
theorem Yo {w0 : World} {h : AH} {Q : CR → AH → Prop} (x0 x1 : Value) (H : Px w0 (fun v h => Q (.az v) h) (fun v h => Q (.ret v) h) x0 x1 h) : WF PP w0 Hq [x0, x1] h Q :=
 eJ bt Yp [[s5, jr]] (by kernel_rfl) (Eq.mp (by kernel_rfl) H)
def Hr (w0 : World) (E R : Value → W) (v5 : Value) : W :=
 cl PP w0 Hq [v5, (fc Cv)] E fun v6 =>
 R v6
def CB (w0 : World) (E R : Value → W) (cz : Value) (kJ : Value → Value → W) (bR : Value) : W :=
 pr (.aH .sub) [cz, (vi 1)] fun eK =>
 kJ bR eK
def Hs (w0 : World) (E R : Value → W) (v1 cz v5 : Value) (kJ : Value → Value → W) (aN : Value) : W :=
 pr (.bB 7) [v1] fun ch =>
 cl PP w0 Hm [ch, cz, v5] E fun fb =>
 pr (.vG) [fb] fun v20 =>
 pr (.di 1) [v5, cz] fun v21 =>
 pr (.aB) [v21] fun dV =>
 pr (.vG) [dV] fun fk =>
 pr (.aH .neq) [v20, fk] fun v24 =>
 br v24 (
 pr (.di 1) [v5, cz] fun fD =>
 pr (.store 1) [fD, fb] fun iy =>
 CB w0 E R cz kJ (.bool true)) (
 CB w0 E R cz kJ aN)
def CC (w0 : World) (E R : Value → W) (v1 v5 : Value) (k7 : Value → W) (kJ : Value → Value → W) (aN cz : Value) : W :=
 pr (.aH .geq) [cz, (vi 0)] fun gC =>
 br gC (
 Hs w0 E R v1 cz v5 kJ aN) (
 k7 aN)
def Ht (w0 : World) (E R : Value → W) (v1 v5 : Value) (k7 : Value → W) : W :=
 pr (.fieldAddr 5) [v1] fun v9 =>
 pr (.aB) [v9] fun v10 =>
 pr (.cW) [v10] fun v11 =>
 pr (.aH .sub) [v11, (vi 1)] fun v12 =>
 LP (α := Value × Value) (fun k a => CC w0 E R v1 v5 k7 (fun b0 b1 => k (b0, b1)) a.1 a.2) ((.bool false), v12)
def CD (w0 : World) (E R : Value → W) (v1 v5 : Value) (k7 : Value → W) (y8 : Value) : W :=
 br y8 (
 Ht w0 E R v1 v5 k7) (
 Hr w0 E R v5)
def Hu (w0 : World) (E R : Value → W) (v1 : Value) : W :=
 pr (.fieldAddr 5) [v1] fun v2 =>
 pr (.aB) [v2] fun v3 =>
 pr (.cW) [v3] fun v4 =>
 pr (.mkSlice 102 1 [(.map none)]) [v4, v4] fun v5 =>
 LP (α := Value) (fun k a => CD w0 E R v1 v5 k a) ((.bool true))
def Py (w0 : World) (E R : Value → W) (x0 : Value) : W :=
 pr (.box 25) [x0] fun v1 =>
 pr (.bB 7) [v1] fun v28 =>
 cl PP w0 vD [v28] E fun cd =>
 pr (.eL) [cd] fun v30 =>
 br v30 (
 R cP) (
 Hu w0 E R v1)
theorem Yq {w0 : World} {h : AH} {Q : CR → AH → Prop} (x0 : Value) (H : Py w0 (fun v h => Q (.az v) h) (fun v h => Q (.ret v) h) x0 h) : WF PP w0 Hv [x0] h Q :=
 eJ bt Yr [[s4], [s4, s5]] (by kernel_rfl) (Eq.mp (by kernel_rfl) H)
def Hw (w0 : World) (E R : Value → W) (v1 : Value) : W :=
 pr (.build [(vi 0), (vi 0), (vi 0), (vi 0), (vi 0), (vi 0), (.bool false)] []) [] fun v2 =>
 pr (.store 7) [v1, v2] fun v3 =>
 ld (.bB 7) [v1] fun v4 =>
 R (.tuple ⟨[v4, (.bool false)]⟩)
def ye (w0 : World) (E R : Value → W) (v1 x0 vH : Value) : W :=
 br vH (
 pr (.cX [1, 1, 1]) [(vi 1), (vi 1), (vi 1)] fun nw =>
 pr (.cX [1, 1]) [(vi 2), (vi 3)] fun kG =>
 pr (.build [(vi 0), (vi 0), (vi 0), (vi 0), (vi 0), (vi 0), (.bool false)] [(0,3), (3,1), (4,2)]) [nw, (vi 1), kG] fun jq =>
 pr (.store 7) [v1, jq] fun j2 =>
 ld (.bB 7) [v1] fun v37 =>
 R (.tuple ⟨[v37, (.bool true)]⟩)) (
 pr (.aH .eql) [x0, (vi 17)] fun iQ =>
 br iQ (
 pr (.cX [1, 1, 1]) [(vi 1), (vi 2), (vi 5)] fun kF =>
 pr (.cX [1, 1]) [(vi 2), (vi 0)] fun v40 =>
 pr (.cX [3, 1, 2, 1]) [kF, (vi 1), v40, (.bool true)] fun fS =>
 pr (.store 7) [v1, fS] fun mv =>
 ld (.bB 7) [v1] fun gD =>
 R (.tuple ⟨[gD, (.bool true)]⟩)) (
 pr (.aH .eql) [x0, (vi 18)] fun nu =>
 br nu (
 pr (.cX [1, 1, 1]) [(vi 5), (vi 1), (vi 0)] fun nv =>
 pr (.cX [1, 1]) [(vi 2), (vi 0)] fun v46 =>
 pr (.build [(vi 0), (vi 0), (vi 0), (vi 0), (vi 0), (vi 0), (.bool false)] [(0,3), (4,2)]) [nv, v46] fun eM =>
 pr (.store 7) [v1, eM] fun fE =>
 ld (.bB 7) [v1] fun v49 =>
 R (.tuple ⟨[v49, (.bool true)]⟩)) (
 pr (.aH .eql) [x0, (vi 19)] fun gY =>
 br gY (
 pr (.cX [1, 1, 1]) [(vi 6), (vi 1), (vi 0)] fun v51 =>
 pr (.cX [1, 1]) [(vi 2), (vi 0)] fun kI =>
 pr (.build [(vi 0), (vi 0), (vi 0), (vi 0), (vi 0), (vi 0), (.bool false)] [(0,3), (4,2)]) [v51, kI] fun v53 =>
 pr (.store 7) [v1, v53] fun oH =>
 ld (.bB 7) [v1] fun kH =>
 R (.tuple ⟨[kH, (.bool true)]⟩)) (
 pr (.aH .eql) [x0, (vi 20)] fun nC =>
 br nC (
 pr (.cX [1, 1, 1]) [(vi 7), (vi 2), (vi 8)] fun lU =>
 pr (.cX [1, 1]) [(vi 2), (vi 0)] fun rk =>
 pr (.cX [3, 1, 2, 1]) [lU, (vi 1), rk, (.bool true)] fun v59 =>
 pr (.store 7) [v1, v59] fun yf =>
 ld (.bB 7) [v1] fun tH =>
 R (.tuple ⟨[tH, (.bool true)]⟩)) (
 pr (.aH .eql) [x0, (vi 21)] fun tI =>
 br tI (
 pr (.cX [1, 1, 1]) [(vi 1), (vi 9), (vi 4)] fun Hx =>
 pr (.build [(vi 0), (vi 0), (vi 0), (vi 0), (vi 0), (vi 0), (.bool false)] [(0,3), (3,1), (6,1)]) [Hx, (vi 1), (.bool true)] fun yg =>
 pr (.store 7) [v1, yg] fun vI =>
 ld (.bB 7) [v1] fun tJ =>
 R (.tuple ⟨[tJ, (.bool true)]⟩)) (
 pr (.aH .eql) [x0, (vi 22)] fun Hy =>
 br Hy (
 pr (.cX [1, 1, 1]) [(vi 1), (vi 10), (vi 0)] fun yi =>
 pr (.cX [1, 1]) [(vi 1), (vi 0)] fun lV =>
 pr (.build [(vi 0), (vi 0), (vi 0), (vi 0), (vi 0), (vi 0), (.bool false)] [(0,3), (4,2), (6,1)]) [yi, lV, (.bool true)] fun v70 =>
 pr (.store 7) [v1, v70] fun Pz =>
 ld (.bB 7) [v1] fun v72 =>
 R (.tuple ⟨[v72, (.bool true)]⟩)) (
 pr (.aH .eql) [x0, (vi 23)] fun Hz =>
 br Hz (
 pr (.cX [1, 1, 1]) [(vi 2), (vi 0), (vi 0)] fun HA =>
 pr (.cX [1, 1]) [(vi 1), (vi 0)] fun v75 =>
 pr (.build [(vi 0), (vi 0), (vi 0), (vi 0), (vi 0), (vi 0), (.bool false)] [(0,3), (4,2), (6,1)]) [HA, v75, (.bool true)] fun v76 =>
 pr (.store 7) [v1, v76] fun PA =>
 ld (.bB 7) [v1] fun HB =>
 R (.tuple ⟨[HB, (.bool true)]⟩)) (
 pr (.aH .eql) [x0, (vi 24)] fun HC =>
 br HC (
 pr (.cX [1, 1, 1]) [(vi 11), (vi 0), (vi 0)] fun v80 =>
 pr (.build [(vi 0), (vi 0), (vi 0), (vi 0), (vi 0), (vi 0), (.bool false)] [(0,3)]) [v80] fun yj =>
 pr (.store 7) [v1, yj] fun PB =>
 ld (.bB 7) [v1] fun HD =>
 R (.tuple ⟨[HD, (.bool true)]⟩)) (
 pr (.aH .eql) [x0, (vi 25)] fun HE =>
 br HE (
 pr (.cX [1, 1, 1]) [(vi 1), (vi 11), (vi 0)] fun v85 =>
 pr (.cX [1, 1]) [(vi 1), (vi 0)] fun yk =>
 pr (.build [(vi 0), (vi 0), (vi 0), (vi 0), (vi 0), (vi 0), (.bool false)] [(0,3), (4,2)]) [v85, yk] fun v87 =>
 pr (.store 7) [v1, v87] fun PC =>
 ld (.bB 7) [v1] fun HF =>
 R (.tuple ⟨[HF, (.bool true)]⟩)) (
 pr (.aH .eql) [x0, (vi 26)] fun HG =>
 br HG (
 pr (.cX [1, 1, 1]) [(vi 12), (vi 0), (vi 0)] fun v91 =>
 pr (.build [(vi 0), (vi 0), (vi 0), (vi 0), (vi 0), (vi 0), (.bool false)] [(0,3), (6,1)]) [v91, (.bool true)] fun vJ =>
 pr (.store 7) [v1, vJ] fun v93 =>
 ld (.bB 7) [v1] fun HI =>
 R (.tuple ⟨[HI, (.bool true)]⟩)) (
 pr (.aH .eql) [x0, (vi 27)] fun HJ =>
 br HJ (
 pr (.build [(vi 0), (vi 0), (vi 0), (vi 0), (vi 0), (vi 0), (.bool false)] [(6,1)]) [(.bool true)] fun oK =>
 pr (.store 7) [v1, oK] fun v97 =>
 ld (.bB 7) [v1] fun Ys =>
 R (.tuple ⟨[Ys, (.bool true)]⟩)) (
 pr (.aH .eql) [x0, (vi 28)] fun Yt =>
 br Yt (
 pr (.cX [1, 1, 1]) [(vi 2), (vi 0), (vi 0)] fun Yu =>
 pr (.cX [1, 1]) [(vi 1), (vi 0)] fun Yv =>
 pr (.build [(vi 0), (vi 0), (vi 0), (vi 0), (vi 0), (vi 0), (.bool false)] [(0,3), (4,2)]) [Yu, Yv] fun Yw =>
 pr (.store 7) [v1, Yw] fun aje =>
 ld (.bB 7) [v1] fun Yx =>
 R (.tuple ⟨[Yx, (.bool true)]⟩)) (
 pr (.aH .eql) [x0, (vi 29)] fun v105 =>
 br v105 (
 pr (.cX [1, 1, 1]) [(vi 1), (vi 0), (vi 0)] fun Yy =>
 pr (.cX [1, 1]) [(vi 1), (vi 0)] fun v107 =>
 pr (.build [(vi 0), (vi 0), (vi 0), (vi 0), (vi 0), (vi 0), (.bool false)] [(0,3), (4,2)]) [Yy, v107] fun Yz =>
 pr (.store 7) [v1, Yz] fun v109 =>
 ld (.bB 7) [v1] fun YA =>
 R (.tuple ⟨[YA, (.bool true)]⟩)) (
 pr (.aH .eql) [x0, (vi 30)] fun YB =>
 br YB (
 pr (.cX [1, 1, 1]) [(vi 1), (vi 0), (vi 0)] fun YC =>
 pr (.cX [1, 1]) [(vi 1), (vi 0)] fun YD =>
 pr (.build [(vi 0), (vi 0), (vi 0), (vi 0), (vi 0), (vi 0), (.bool false)] [(0,3), (4,2), (6,1)]) [YC, YD, (.bool true)] fun YE =>
 pr (.store 7) [v1, YE] fun ajf =>
 ld (.bB 7) [v1] fun YF =>
 R (.tuple ⟨[YF, (.bool true)]⟩)) (
 pr (.aH .eql) [x0, (vi 31)] fun v117 =>
 br v117 (
 pr (.build [(vi 0), (vi 0), (vi 0), (vi 0), (vi 0), (vi 0), (.bool false)] []) [] fun YG =>
 pr (.store 7) [v1, YG] fun ajg =>
 ld (.bB 7) [v1] fun YH =>
 R (.tuple ⟨[YH, (.bool true)]⟩)) (
 pr (.aH .eql) [x0, (vi 32)] fun YI =>
 br YI (
 pr (.cX [1, 1, 1]) [(vi 1), (vi 11), (vi 0)] fun YJ =>
 pr (.cX [1, 1]) [(vi 1), (vi 0)] fun YK =>
 pr (.build [(vi 0), (vi 0), (vi 0), (vi 0), (vi 0), (vi 0), (.bool false)] [(0,3), (4,2), (6,1)]) [YJ, YK, (.bool true)] fun v124 =>
 pr (.store 7) [v1, v124] fun ajh =>
 ld (.bB 7) [v1] fun YL =>
 R (.tuple ⟨[YL, (.bool true)]⟩)) (
 pr (.aH .eql) [x0, (vi 33)] fun v127 =>
 br v127 (
 pr (.cX [1, 1, 1]) [(vi 1), (vi 13), (vi 0)] fun YM =>
 pr (.build [(vi 0), (vi 0), (vi 0), (vi 0), (vi 0), (vi 0), (.bool false)] [(0,3), (3,1)]) [YM, (vi 1)] fun YN =>
 pr (.store 7) [v1, YN] fun v130 =>
 ld (.bB 7) [v1] fun v131 =>
 R (.tuple ⟨[v131, (.bool true)]⟩)) (
 pr (.aH .eql) [x0, (vi 34)] fun YO =>
 br YO (
 pr (.cX [1, 1, 1]) [(vi 13), (vi 1), (vi 0)] fun YP =>
 pr (.cX [1, 1]) [(vi 2), (vi 0)] fun YQ =>
 pr (.build [(vi 0), (vi 0), (vi 0), (vi 0), (vi 0), (vi 0), (.bool false)] [(0,3), (4,2)]) [YP, YQ] fun YR =>
 pr (.store 7) [v1, YR] fun aji =>
 ld (.bB 7) [v1] fun YS =>
 R (.tuple ⟨[YS, (.bool true)]⟩)) (
 Hw w0 E R v1)))))))))))))))))))
def tK (w0 : World) (E R : Value → W) (v1 x0 vK : Value) : W :=
 br vK (
 pr (.cX [1, 1, 1]) [(vi 1), (vi 1), (vi 1)] fun gC =>
 pr (.cX [1, 1]) [(vi 2), (vi 3)] fun v28 =>
 pr (.cX [3, 1, 2, 1]) [gC, (vi 1), v28, (.bool true)] fun cd =>
 pr (.store 7) [v1, cd] fun v30 =>
 ld (.bB 7) [v1] fun v31 =>
 R (.tuple ⟨[v31, (.bool true)]⟩)) (
 pr (.aH .eql) [x0, (vi 12)] fun v138 =>
 br v138 (
 ye w0 E R v1 x0 v138) (
 pr (.aH .eql) [x0, (vi 13)] fun v139 =>
 br v139 (
 ye w0 E R v1 x0 v139) (
 pr (.aH .eql) [x0, (vi 14)] fun YT =>
 ye w0 E R v1 x0 YT)))
def vL (w0 : World) (E R : Value → W) (v1 x0 vM : Value) : W :=
 br vM (
 pr (.cX [1, 1, 1]) [(vi 1), (vi 1), (vi 0)] fun v21 =>
 pr (.cX [1, 1]) [(vi 2), (vi 0)] fun dV =>
 pr (.build [(vi 0), (vi 0), (vi 0), (vi 0), (vi 0), (vi 0), (.bool false)] [(0,3), (3,1), (4,2)]) [v21, (vi 1), dV] fun fk =>
 pr (.store 7) [v1, fk] fun v24 =>
 ld (.bB 7) [v1] fun fD =>
 R (.tuple ⟨[fD, (.bool true)]⟩)) (
 pr (.aH .eql) [x0, (vi 6)] fun v141 =>
 br v141 (
 tK w0 E R v1 x0 v141) (
 pr (.aH .eql) [x0, (vi 7)] fun PD =>
 br PD (
 tK w0 E R v1 x0 PD) (
 pr (.aH .eql) [x0, (vi 8)] fun v143 =>
 br v143 (
 tK w0 E R v1 x0 v143) (
 pr (.aH .eql) [x0, (vi 9)] fun PE =>
 br PE (
 tK w0 E R v1 x0 PE) (
 pr (.aH .eql) [x0, (vi 10)] fun v145 =>
 tK w0 E R v1 x0 v145)))))
def CE (w0 : World) (E R : Value → W) (v1 x0 cz : Value) : W :=
 br cz (
 pr (.cX [1, 1, 1]) [(vi 1), (vi 0), (vi 0)] fun eU =>
 pr (.build [(vi 0), (vi 0), (vi 0), (vi 0), (vi 0), (vi 0), (.bool false)] [(0,3), (3,1)]) [eU, (vi 1)] fun eK =>
 pr (.store 7) [v1, eK] fun ch =>
 ld (.bB 7) [v1] fun fb =>
 R (.tuple ⟨[fb, (.bool true)]⟩)) (
 pr (.aH .eql) [x0, (vi 4)] fun v146 =>
 br v146 (
 vL w0 E R v1 x0 v146) (
 pr (.aH .eql) [x0, (vi 11)] fun PF =>
 br PF (
 vL w0 E R v1 x0 PF) (
 pr (.aH .eql) [x0, (vi 15)] fun v148 =>
 br v148 (
 vL w0 E R v1 x0 v148) (
 pr (.aH .eql) [x0, (vi 16)] fun YU =>
 vL w0 E R v1 x0 YU))))
def PG (w0 : World) (E R : Value → W) (x0 : Value) : W :=
 pr (.alloc 148 [(vi 0), (vi 0), (vi 0), (vi 0), (vi 0), (vi 0), (.bool false)]) [] fun v1 =>
 pr (.aH .eql) [x0, (vi 1)] fun v5 =>
 br v5 (
 pr (.cX [1, 1, 1]) [(vi 1), (vi 3), (vi 0)] fun v6 =>
 pr (.build [(vi 0), (vi 0), (vi 0), (vi 0), (vi 0), (vi 0), (.bool false)] [(0,3), (3,1)]) [v6, (vi 1)] fun v7 =>
 pr (.store 7) [v1, v7] fun v8 =>
 ld (.bB 7) [v1] fun v9 =>
 R (.tuple ⟨[v9, (.bool true)]⟩)) (
 pr (.aH .eql) [x0, (vi 2)] fun v10 =>
 br v10 (
 pr (.cX [1, 1, 1]) [(vi 1), (vi 4), (vi 0)] fun v11 =>
 pr (.build [(vi 0), (vi 0), (vi 0), (vi 0), (vi 0), (vi 0), (.bool false)] [(0,3), (3,1)]) [v11, (vi 1)] fun v12 =>
 pr (.store 7) [v1, v12] fun bX =>
 ld (.bB 7) [v1] fun cH =>
 R (.tuple ⟨[cH, (.bool true)]⟩)) (
 pr (.aH .eql) [x0, (vi 3)] fun PH =>
 br PH (
 CE w0 E R v1 x0 PH) (
 pr (.aH .eql) [x0, (vi 5)] fun YV =>
 CE w0 E R v1 x0 YV)))
theorem YW {w0 : World} {h : AH} {Q : CR → AH → Prop} (x0 : Value) (H : PG w0 (fun v h => Q (.az v) h) (fun v h => Q (.ret v) h) x0 h) : WF PP w0 HK [x0] h Q :=
 eJ bt YX [] (by kernel_rfl) (Eq.mp (by kernel_rfl) H)
def PI (w0 : World) (E R : Value → W) (x0 : Value) : W :=
 pr (.box 67) [x0] fun v1 =>
 pr (.fieldAddr 0) [v1] fun v2 =>
 pr (.aB) [v2] fun v3 =>
 cl PP w0 HK [v3] E fun v4 =>
 pr (.extract 0) [v4] fun v5 =>
 pr (.extract 1) [v4] fun v6 =>
 pr (.alloc 148 [(vi 0), (vi 0), (vi 0), (vi 0), (vi 0), (vi 0), (.bool false)]) [] fun v7 =>
 pr (.store 7) [v7, v5] fun v8 =>
 pr (.fieldAddr 6) [v7] fun v9 =>
 pr (.aB) [v9] fun v10 =>
 R v10
theorem YY {w0 : World} {h : AH} {Q : CR → AH → Prop} (x0 : Value) (H : PI w0 (fun v h => Q (.az v) h) (fun v h => Q (.ret v) h) x0 h) : WF PP w0 HL [x0] h Q :=
 eJ bt YZ [] (by kernel_rfl) (Eq.mp (by kernel_rfl) H)
def CF (w0 : World) (E R : Value → W) (v8 v3 : Value) (d16 : List Nat) : W :=
 pr (.aB) [v8] fun eK =>
 pr (.store 1) [v3, eK] fun ch =>
 iS (d16) (
 ld (.aB) [v3] fun fb =>
 R fb)
def CG (w0 : World) (E R : Value → W) (v8 cx v11 : Value) (nE : LO) (nF : Nat) : W :=
 pr (.aB) [v8] fun fE =>
 pr (.di 1) [fE, cx] fun v49 =>
 pr (.aB) [v49] fun gY =>
 pr (.eL) [gY] fun v51 =>
 br v51 (
 pr (.aB) [v8] fun kI =>
 pr (.di 1) [kI, cx] fun v53 =>
 pr (.store 1) [v53, (.bool true)] fun oH =>
 pr (.aB) [v11] fun kH =>
 pr (.buildSlice 3 1 [(vi 0)] [(0,1)]) [cx] fun nC =>
 pr (.append 3 1 [(vi 0)]) [kH, nC] fun lU =>
 pr (.store 1) [v11, lU] fun rk =>
 iT nE nF .ready none true R) (
 iT nE nF .ready none true R)
def CH (w0 : World) (E R : Value → W) (v2 cd v3 v8 v11 : Value) (nE : LO) (nF : Nat) (cx lW : Value) : W :=
 pM nE nF (
 lS nE nF (
 pr (.aB) [v2] fun v59 =>
 pr (.aB) [cd] fun yf =>
 dy PP w0 [v59, yf, cx, lW] lT fun tH =>
 pr (.eL) [tH] fun tI =>
 br tI (
 pr (.store 1) [v3, cP] fun Hx =>
 iT nE nF .done (some .ret) false R) (
 CG w0 E R v8 cx v11 nE nF)))
def CI (w0 : World) (E R : Value → W) (v11 v1 v2 v3 v8 : Value) (pR : List Nat → W) (d22 : List Nat) : W :=
 pr (.aB) [v11] fun fk =>
 pr (.aB) [v11] fun v24 =>
 pr (.cW) [v24] fun fD =>
 pr (.aH .sub) [fD, (vi 1)] fun iy =>
 pr (.di 1) [fk, iy] fun gC =>
 pr (.aB) [gC] fun v28 =>
 pr (.alloc 3 [(vi 0)]) [] fun cd =>
 pr (.store 1) [cd, v28] fun v30 =>
 pr (.aB) [v11] fun v31 =>
 pr (.aB) [v11] fun iz =>
 pr (.cW) [iz] fun nw =>
 pr (.aH .sub) [nw, (vi 1)] fun kG =>
 pr (.slice 1 false true false) [v31, kG] fun jq =>
 pr (.store 1) [v11, jq] fun j2 =>
 pr (.bB 7) [v1] fun v37 =>
 pr (.aB) [cd] fun iQ =>
 cl PP w0 x7 [v37, iQ] (cE (d22) E) fun kF =>
 vE PP w0 kF (fun nE nF PJ R => x9 (fun cx lW => CH w0 lT R v2 cd v3 v8 v11 nE nF cx lW) PJ) (fun lX => cE (lX :: d22) E) (fun lX Y0 => rh Y0 (
 pR (lX :: d22)) (
 iS (lX :: d22) (
 ld (.aB) [v3] fun eM =>
 R eM)) [])
def yn (w0 : World) (E R : Value → W) (v11 v1 v2 v3 v8 : Value) (pR : List Nat → W) (d21 : List Nat) : W :=
 pr (.aB) [v11] fun yg =>
 pr (.cW) [yg] fun vI =>
 pr (.aH .gtr) [vI, (vi 0)] fun tJ =>
 br tJ (
 CI w0 E R v11 v1 v2 v3 v8 pR (d21)) (
 CF w0 E R v8 v3 (d21))
def PK (w0 : World) (E R : Value → W) (x0 x1 : Value) : W :=
 pr (.box 25) [x0] fun v1 =>
 pr (.box 100) [x1] fun v2 =>
 pr (.alloc 39 [cP]) [] fun v3 =>
 pr (.fieldAddr 5) [v1] fun v4 =>
 pr (.aB) [v4] fun v5 =>
 pr (.cW) [v5] fun v6 =>
 pr (.mkSlice 4 1 [(.bool false)]) [v6, v6] fun v7 =>
 pr (.alloc 39 [cP]) [] fun v8 =>
 pr (.store 1) [v8, v7] fun v9 =>
 pr (.buildSlice 3 1 [(vi 0)] [(0,1)]) [(vi 0)] fun v10 =>
 pr (.alloc 28 [cP]) [] fun v11 =>
 pr (.store 1) [v11, v10] fun v12 =>
 pr (.aB) [v8] fun bX =>
 pr (.di 1) [bX, (vi 0)] fun cH =>
 pr (.store 1) [cH, (.bool true)] fun cj =>
 LP (α := (Unit) × List Nat) (fun k a => yn w0 E R v11 v1 v2 v3 v8 (fun  q => k ((), q)) a.2) ((), ([] : List Nat))
theorem Y1 {w0 : World} {h : AH} {Q : CR → AH → Prop} (x0 : Value) (x1 : Value) (H : PK w0 (fun v h => Q (.az v) h) (fun v h => Q (.ret v) h) x0 x1 h) : WF PP w0 HM [x0, x1] h Q := by
 let E : Value → W := fun v h => Q (.az v) h
 let R : Value → W := fun v h => Q (.ret v) h
 refine Cr bt Y2 ?_
 refine ee ?_
 refine dm ?_
 refine aV (vs := [x0]) (by kernel_rfl) H fun v1 h H => ?_
 refine aV (vs := [x1]) (by kernel_rfl) H fun v2 h H => ?_
 refine aV (vs := []) (by kernel_rfl) H fun v3 h H => ?_
 refine dq ?_
 refine ef ?_
 refine ee ?_
 refine dm ?_
 refine aV (vs := [v1]) (by kernel_rfl) H fun v4 h H => ?_
 refine aV (vs := [v4]) (by kernel_rfl) H fun v5 h H => ?_
 refine aV (vs := [v5]) (by kernel_rfl) H fun v6 h H => ?_
 refine aV (vs := [v6, v6]) (by kernel_rfl) H fun v7 h H => ?_
 refine aV (vs := []) (by kernel_rfl) H fun v8 h H => ?_
 refine aV (vs := [v8, v7]) (by kernel_rfl) H fun v9 h H => ?_
 refine dq ?_
 refine ef ?_
 refine ee ?_
 refine dm ?_
 refine aV (vs := [(vi 0)]) (by kernel_rfl) H fun v10 h H => ?_
 refine aV (vs := []) (by kernel_rfl) H fun v11 h H => ?_
 refine aV (vs := [v11, v10]) (by kernel_rfl) H fun v12 h H => ?_
 refine dq ?_
 refine ef ?_
 refine ee ?_
 refine dm ?_
 refine aV (vs := [v8]) (by kernel_rfl) H fun bX h H => ?_
 refine aV (vs := [bX, (vi 0)]) (by kernel_rfl) H fun cH h H => ?_
 refine aV (vs := [cH, (.bool true)]) (by kernel_rfl) H fun cj h H => ?_
 refine dq ?_
 refine ef ?_
 refine ri (rs := ([] : List Nat)) (α := Unit) [(s4, v3), (s5, v8)] (fun a => []) (fun σ => ()) (fun a q => CF w0 E R v8 v3  q) (fun σ => trivial) (fun a1 d16 σ h H => ?_) ?_
 · refine ee ?_
   refine dm ?_
   refine aV (vs := [v8]) (by kernel_rfl) H fun eK h H => ?_
   refine aV (vs := [v3, eK]) (by kernel_rfl) H fun ch h H => ?_
   refine dq ?_
   refine ef ?_
   exact ya (P := PP) (w0 := w0) yo.results Q (d16) (by kernel_rfl) (Eq.mp (by kernel_rfl) H)
 · refine mw ?_
   refine Pu bt (rs := ([] : List Nat)) (α := Unit) [(s2, v1), (s3, v2), (s4, v3), (s5, v8), (s6, v11)] (fun a => []) (fun σ => ()) (fun k a => yn w0 E R v11 v1 v2 v3 v8 (fun  q => k ((), q)) a.2) (fun σ => trivial) (fun Y3 a2 d21 σ h H => ?_) (x := ()) (by kernel_rfl) (Eq.mp (by kernel_rfl) (And.intro (Eq.refl (v1 : Value)) (And.intro (Eq.refl (v2 : Value)) (And.intro (Eq.refl (v3 : Value)) (And.intro (Eq.refl (v8 : Value)) (And.intro (Eq.refl (v11 : Value)) trivial)))))) H
   refine ri (rs := d21) (α := Unit) [(s2, v1), (s3, v2), (s4, v3), (s5, v8), (s6, v11)] (fun a => []) (fun σ => ()) (fun a q => CI w0 E R v11 v1 v2 v3 v8 (fun  q => Y3 ((), q))  q) (fun σ => trivial) (fun a3 d22 σ h H => ?_) ?_
   · refine mw ?_
     refine ee ?_
     refine dm ?_
     refine aV (vs := [v11]) (by kernel_rfl) H fun fk h H => ?_
     refine aV (vs := [v11]) (by kernel_rfl) H fun v24 h H => ?_
     refine aV (vs := [v24]) (by kernel_rfl) H fun fD h H => ?_
     refine aV (vs := [fD, (vi 1)]) (by kernel_rfl) H fun iy h H => ?_
     refine aV (vs := [fk, iy]) (by kernel_rfl) H fun gC h H => ?_
     refine aV (vs := [gC]) (by kernel_rfl) H fun v28 h H => ?_
     refine aV (vs := []) (by kernel_rfl) H fun cd h H => ?_
     refine aV (vs := [cd, v28]) (by kernel_rfl) H fun v30 h H => ?_
     refine dq ?_
     refine ef ?_
     refine ee ?_
     refine dm ?_
     refine aV (vs := [v11]) (by kernel_rfl) H fun v31 h H => ?_
     refine aV (vs := [v11]) (by kernel_rfl) H fun iz h H => ?_
     refine aV (vs := [iz]) (by kernel_rfl) H fun nw h H => ?_
     refine aV (vs := [nw, (vi 1)]) (by kernel_rfl) H fun kG h H => ?_
     refine aV (vs := [v31, kG]) (by kernel_rfl) H fun jq h H => ?_
     refine aV (vs := [v11, jq]) (by kernel_rfl) H fun j2 h H => ?_
     refine dq ?_
     refine ef ?_
     refine ee ?_
     refine dm ?_
     refine aV (vs := [v1]) (by kernel_rfl) H fun v37 h H => ?_
     refine aV (vs := [cd]) (by kernel_rfl) H fun iQ h H => ?_
     refine vF (vs := [v37, iQ]) (by kernel_rfl) H (fun _ _ H => pN (P := PP) (w0 := w0) yo.results Q (d22) (by kernel_rfl) H) fun kF h H => ?_
     refine dq ?_
     refine ef ?_
     refine mw ?_
     refine G8 bt (rs := d22) _ _ _ _ _ (fv := kF) (by kernel_rfl) H (fun lX _ _ H => pN (P := PP) (w0 := w0) yo.results Q (lX :: d22) (by kernel_rfl) H) (fun lX h H => ?_) (fun lX h H => ?_) (fun lX => trivial) (fun nE Pj nF PJ R h H => ?_)
     · refine nz ?_
       refine nz ?_
       exact Exists.intro (lX :: d22) (Eq.mp (by kernel_rfl) (And.intro (Eq.refl (fT (lX :: d22))) (And.intro (And.intro (Eq.refl (v1 : Value)) (And.intro (Eq.refl (v2 : Value)) (And.intro (Eq.refl (v3 : Value)) (And.intro (Eq.refl (v8 : Value)) (And.intro (Eq.refl (v11 : Value)) trivial))))) H)))
     · exact ya (P := PP) (w0 := w0) yo.results Q (lX :: d22) (by kernel_rfl) (Eq.mp (by kernel_rfl) H)
     · obtain ⟨cx, lW, rfl, H⟩ := G9 H
       let E : Value → W := lT
       have H2 := Ha H
       refine ⟨H2.1, rfl, ?_⟩
       have H := H2.2
       refine ee ?_
       refine dm ?_
       refine fe (v := cx) (by kernel_rfl) ?_
       refine dq ?_
       refine ef ?_
       refine dm ?_
       refine fe (v := lW) (by kernel_rfl) ?_
       refine dq ?_
       refine Hb H (fun h H => ?_)
       refine mw ?_
       refine Pw (α := Unit) [(s5, v8), (s6, v11), (s8, cx)] (fun a => []) (fun σ => ()) (fun a => CG w0 E R v8 cx v11 nE nF ) (fun σ => trivial) (fun a4 σ h H => ?_) ?_
       · refine ee ?_
         refine dm ?_
         refine aV (vs := [v8]) (by kernel_rfl) H fun fE h H => ?_
         refine fe (v := cx) (by kernel_rfl) ?_
         refine aV (vs := [fE, cx]) (by kernel_rfl) H fun v49 h H => ?_
         refine aV (vs := [v49]) (by kernel_rfl) H fun gY h H => ?_
         refine aV (vs := [gY]) (by kernel_rfl) H fun v51 h H => ?_
         refine dq ?_
         refine ef ?_
         refine pO (v := v51) (by kernel_rfl) H (fun H => ?_) (fun H => ?_)
         · refine ee ?_
           refine dm ?_
           refine aV (vs := [v8]) (by kernel_rfl) H fun kI h H => ?_
           refine fe (v := cx) (by kernel_rfl) ?_
           refine aV (vs := [kI, cx]) (by kernel_rfl) H fun v53 h H => ?_
           refine aV (vs := [v53, (.bool true)]) (by kernel_rfl) H fun oH h H => ?_
           refine dq ?_
           refine ef ?_
           refine dm ?_
           refine aV (vs := [v11]) (by kernel_rfl) H fun kH h H => ?_
           refine fe (v := cx) (by kernel_rfl) ?_
           refine aV (vs := [cx]) (by kernel_rfl) H fun nC h H => ?_
           refine aV (vs := [kH, nC]) (by kernel_rfl) H fun lU h H => ?_
           refine aV (vs := [v11, lU]) (by kernel_rfl) H fun rk h H => ?_
           refine dq ?_
           refine nz ?_
           exact Eq.mp (by kernel_rfl) (And.intro (Eq.refl ([] : List eg)) H)
         · refine rj ?_
           refine nz ?_
           exact Eq.mp (by kernel_rfl) (And.intro (Eq.refl ([] : List eg)) H)
       · refine ee ?_
         refine dm ?_
         refine aV (vs := [v2]) (by kernel_rfl) H fun v59 h H => ?_
         refine aV (vs := [cd]) (by kernel_rfl) H fun yf h H => ?_
         refine fe (v := cx) (by kernel_rfl) ?_
         refine fe (v := lW) (by kernel_rfl) ?_
         refine Y4 (vs := [v59, yf, cx, lW]) (by kernel_rfl) H (fun _ _ H => False.elim H) fun tH h H => ?_
         refine aV (vs := [tH]) (by kernel_rfl) H fun tI h H => ?_
         refine dq ?_
         refine ef ?_
         refine pO (v := tI) (by kernel_rfl) H (fun H => ?_) (fun H => ?_)
         · refine ee ?_
           refine dm ?_
           refine aV (vs := [v3, cP]) (by kernel_rfl) H fun Hx h H => ?_
           refine dq ?_
           refine ef ?_
           exact Eq.mp (by kernel_rfl) (And.intro (Eq.refl ([] : List eg)) H)
         · refine rj ?_
           exact Eq.mp (by kernel_rfl) (And.intro (Eq.refl (⟨[], .off⟩ : DS)) (And.intro (And.intro (Eq.refl (v8 : Value)) (And.intro (Eq.refl (v11 : Value)) (And.intro (Eq.refl (cx : Value)) trivial))) H))
   · refine ee ?_
     refine dm ?_
     refine aV (vs := [v11]) (by kernel_rfl) H fun yg h H => ?_
     refine aV (vs := [yg]) (by kernel_rfl) H fun vI h H => ?_
     refine aV (vs := [vI, (vi 0)]) (by kernel_rfl) H fun tJ h H => ?_
     refine dq ?_
     refine ef ?_
     refine pO (v := tJ) (by kernel_rfl) H (fun H => ?_) (fun H => ?_)
     · refine rj ?_
       exact Exists.intro (d21) (Eq.mp (by kernel_rfl) (And.intro (Eq.refl (fT (d21))) (And.intro (And.intro (Eq.refl (v1 : Value)) (And.intro (Eq.refl (v2 : Value)) (And.intro (Eq.refl (v3 : Value)) (And.intro (Eq.refl (v8 : Value)) (And.intro (Eq.refl (v11 : Value)) trivial))))) H)))
     · exact Exists.intro (d21) (Eq.mp (by kernel_rfl) (And.intro (Eq.refl (fT (d21))) (And.intro (And.intro (Eq.refl (v3 : Value)) (And.intro (Eq.refl (v8 : Value)) trivial)) H)))
def PL (w0 : World) (E R : Value → W) (x0 x1 x2 : Value) : W :=
 R (.bool true)
theorem Y5 {w0 : World} {h : AH} {Q : CR → AH → Prop} (x0 x1 x2 : Value) (H : PL w0 (fun v h => Q (.az v) h) (fun v h => Q (.ret v) h) x0 x1 x2 h) : WF PP w0 CJ [x0, x1, x2] h Q :=
 eJ bt Y6 [] (by kernel_rfl) (Eq.mp (by kernel_rfl) H)
def HN (w0 : World) (E R : Value → W) (v1 : Value) : W :=
 pr (.bB 7) [v1] fun v2 =>
 cl PP w0 HM [v2, (fc CJ)] E fun v3 =>
 R v3
def PM (w0 : World) (E R : Value → W) (x0 : Value) : W :=
 pr (.box 25) [x0] fun v1 =>
 pr (.bB 7) [v1] fun v4 =>
 cl PP w0 vD [v4] E fun v5 =>
 pr (.eL) [v5] fun v6 =>
 br v6 (
 R cP) (
 HN w0 E R v1)
theorem Y7 {w0 : World} {h : AH} {Q : CR → AH → Prop} (x0 : Value) (H : PM w0 (fun v h => Q (.az v) h) (fun v h => Q (.ret v) h) x0 h) : WF PP w0 HO [x0] h Q :=
 eJ bt Y8 [] (by kernel_rfl) (Eq.mp (by kernel_rfl) H)
def HP (w0 : World) (E R : Value → W) (v1 x1 : Value) : W :=
 pr (.bB 7) [v1] fun v2 =>
 cl PP w0 Ch [v2, x1] E fun v3 =>
 R v3
def HQ (w0 : World) (E R : Value → W) (v1 x1 cH : Value) : W :=
 br cH (
 R (vi (-1))) (
 HP w0 E R v1 x1)
def PN (w0 : World) (E R : Value → W) (x0 x1 : Value) : W :=
 pr (.box 25) [x0] fun v1 =>
 pr (.bB 7) [v1] fun v4 =>
 cl PP w0 vD [v4] E fun v5 =>
 pr (.eL) [v5] fun v6 =>
 gd v6 false (fun k => k x1) fun v7 =>
 gd v6 false (fun k => pr (.fieldAddr 5) [v1] k) fun v8 =>
 gd v6 false (fun k => pr (.aB) [v8] k) fun v9 =>
 gd v6 false (fun k => pr (.cW) [v9] k) fun v10 =>
 gd v6 false (fun k => pr (.aH .sub) [v10, (vi 1)] k) fun v11 =>
 gd v6 false (fun k => cl PP w0 pK [v7, (vi 0), v11] E k) fun v12 =>
 gd v6 false (fun k => pr (.eL) [v12] k) fun bX =>
 pr (.pick) [v6, (.bool true), bX] fun cH =>
 HQ w0 E R v1 x1 cH
theorem Y9 {w0 : World} {h : AH} {Q : CR → AH → Prop} (x0 x1 : Value) (H : PN w0 (fun v h => Q (.az v) h) (fun v h => Q (.ret v) h) x0 x1 h) : WF PP w0 HS [x0, x1] h Q :=
 eJ bt Za [] (by kernel_rfl) (Eq.mp (by kernel_rfl) H)
def HT (w0 : World) (E R : Value → W) (v1 ch : Value) : W :=
 gd ch true (fun k => pr (.fieldAddr 5) [v1] k) fun fb =>
 gd ch true (fun k => pr (.aB) [fb] k) fun v20 =>
 gd ch true (fun k => pr (.cW) [v20] k) fun v21 =>
 gd ch true (fun k => pr (.aH .gtr) [v21, (vi 0)] k) fun dV =>
 pr (.pick) [ch, dV, (.bool false)] fun fk =>
 R fk
def HU (w0 : World) (E R : Value → W) (v1 v10 : Value) : W :=
 gd v10 true (fun k => pr (.bB 7) [v1] k) fun v11 =>
 gd v10 true (fun k => pr (.fieldAddr 5) [v1] k) fun v12 =>
 gd v10 true (fun k => pr (.aB) [v12] k) fun bX =>
 gd v10 true (fun k => pr (.cW) [bX] k) fun cH =>
 gd v10 true (fun k => cl PP w0 HO [v11] E k) fun cj =>
 gk v10 true (fun k => ck (.cW) [bX] cH k) (
 gk v10 true (fun k => ck (.aB) [v12] bX k) (
 gk v10 true (fun k => ck (.fieldAddr 5) [v1] v12 k) (
 gd v10 true (fun k => pr (.cW) [cj] k) fun eU =>
 gd v10 true (fun k => pr (.aH .eql) [eU, cH] k) fun eK =>
 pr (.pick) [v10, eK, (.bool false)] fun ch =>
 HT w0 E R v1 ch)))
def PO (w0 : World) (E R : Value → W) (x0 : Value) : W :=
 pr (.box 25) [x0] fun v1 =>
 pr (.fieldAddr 5) [v1] fun v2 =>
 pr (.aB) [v2] fun v3 =>
 pr (.cW) [v3] fun v4 =>
 pr (.aH .leq) [v4, (vi 40)] fun v5 =>
 gd v5 true (fun k => pr (.fieldAddr 6) [v1] k) fun v6 =>
 gd v5 true (fun k => pr (.aB) [v6] k) fun v7 =>
 gd v5 true (fun k => pr (.cW) [v7] k) fun v8 =>
 gd v5 true (fun k => pr (.aH .leq) [v8, (vi 8)] k) fun v9 =>
 pr (.pick) [v5, v9, (.bool false)] fun v10 =>
 HU w0 E R v1 v10
theorem Zb {w0 : World} {h : AH} {Q : CR → AH → Prop} (x0 : Value) (H : PO w0 (fun v h => Q (.az v) h) (fun v h => Q (.ret v) h) x0 h) : WF PP w0 HV [x0] h Q :=
 eJ bt Zc [] (by kernel_rfl) (Eq.mp (by kernel_rfl) H)
def HW (w0 : World) (E R : Value → W)  : W :=
 R (.bool false)
def HX (w0 : World) (E R : Value → W) (y2 : Value) (k1 : Value → W) : W :=
 pr (.aH .add) [y2, (vi 1)] fun v3 =>
 k1 v3
def HY (w0 : World) (E R : Value → W) (x0 y2 x1 : Value) (k1 : Value → W) : W :=
 pr (.di 1) [x0, y2] fun v4 =>
 pr (.aB) [v4] fun v5 =>
 pr (.aH .eql) [v5, x1] fun v6 =>
 br v6 (
 R (.bool true)) (
 HX w0 E R y2 k1)
def CK (w0 : World) (E R : Value → W) (x0 x1 : Value) (k1 : Value → W) (y2 : Value) : W :=
 pr (.cW) [x0] fun v7 =>
 pr (.aH .lss) [y2, v7] fun v8 =>
 br v8 (
 HY w0 E R x0 y2 x1 k1) (
 HW w0 E R )
def PS (w0 : World) (E R : Value → W) (x0 x1 : Value) : W :=
 LP (α := Value) (fun k a => CK w0 E R x0 x1 k a) ((vi 0))
theorem Zd {w0 : World} {h : AH} {Q : CR → AH → Prop} (x0 x1 : Value) (H : PS w0 (fun v h => Q (.az v) h) (fun v h => Q (.ret v) h) x0 x1 h) : WF PP w0 HZ [x0, x1] h Q :=
 eJ bt Ze [[s5]] (by kernel_rfl) (Eq.mp (by kernel_rfl) H)
def H0 (w0 : World) (E R : Value → W) (v2 : Value) : W :=
 R v2
def H5 (w0 : World) (E R : Value → W) (ar : Value) (da : Value → Value → W) (aN : Value) : W :=
 pr (.aH .add) [ar, (vi 1)] fun cj =>
 da aN cj
def CL (w0 : World) (E R : Value → W) (ar : Value) (da : Value → Value → W) (cd : Value) : W :=
 H5 w0 E R ar da cd
def H6 (w0 : World) (E R : Value → W) (v10 j2 ar : Value) (da : Value → Value → W) (cd v59 : Value) : W :=
 br v59 (
 pr (.nB 0) [v10, j2, (.bool true)] fun yf =>
 CL w0 E R ar da cd) (
 CL w0 E R ar da cd)
def H7 (w0 : World) (E R : Value → W) (x2 ar dV v1 bZ v10 : Value) (da : Value → Value → W) : W :=
 pr (.di 1) [x2, ar] fun fk =>
 pr (.aB) [fk] fun v24 =>
 pr (.conv .i64) [v24] fun fD =>
 pr (.cW) [dV] fun iy =>
 pr (.aH .rem) [fD, iy] fun gC =>
 pr (.di 1) [dV, gC] fun v28 =>
 pr (.aB) [v28] fun cd =>
 pr (.bB 7) [v1] fun v30 =>
 cl PP w0 HS [v30, bZ] E fun v31 =>
 pr (.fieldAddr 5) [v1] fun iz =>
 pr (.aB) [iz] fun nw =>
 pr (.di 4) [nw, bZ] fun kG =>
 pr (.bB 4) [kG] fun jq =>
 cl PP w0 Cw [jq] E fun j2 =>
 pr (.aH .neq) [j2, (vi (-1))] fun v37 =>
 gd v37 true (fun k => k v31) fun iQ =>
 gd v37 true (fun k => pr (.aH .geq) [iQ, (vi 0)] k) fun kF =>
 gd v37 true (fun k => k kF) fun v40 =>
 gd v40 true (fun k => pr (.fieldAddr 6) [v1] k) fun fS =>
 gd v40 true (fun k => pr (.aB) [fS] k) fun mv =>
 gd v40 true (fun k => k v31) fun gD =>
 gd v40 true (fun k => pr (.di 3) [mv, gD] k) fun nu =>
 gd v40 true (fun k => pr (.fieldAddr 2) [nu] k) fun nv =>
 gd v40 true (fun k => pr (.aB) [nv] k) fun v46 =>
 gd v40 true (fun k => k cd) fun eM =>
 gd v40 true (fun k => pr (.aH .eql) [v46, eM] k) fun fE =>
 gd v37 true (fun k => pr (.pick) [v40, fE, (.bool false)] k) fun v49 =>
 gd v37 true (fun k => k v49) fun gY =>
 gd gY true (fun k => pr (.fieldAddr 5) [v1] k) fun v51 =>
 gd gY true (fun k => pr (.aB) [v51] k) fun kI =>
 gd gY true (fun k => k bZ) fun v53 =>
 gd gY true (fun k => pr (.di 4) [kI, v53] k) fun oH =>
 gd gY true (fun k => pr (.bB 4) [oH] k) fun kH =>
 gd gY true (fun k => cl PP w0 HL [kH] E k) fun nC =>
 gd v37 true (fun k => pr (.pick) [gY, nC, (.bool false)] k) fun lU =>
 gd v37 true (fun k => pr (.eL) [lU] k) fun rk =>
 pr (.pick) [v37, rk, (.bool false)] fun v59 =>
 H6 w0 E R v10 j2 ar da cd v59
def H8 (w0 : World) (E R : Value → W) (v1 bZ v2 x2 ar v10 : Value) (da : Value → Value → W) : W :=
 pr (.bB 7) [v1] fun v21 =>
 cl PP w0 G7 [v21, bZ] E fun dV =>
 pr (.cW) [dV] fun tH =>
 pr (.aH .eql) [tH, (vi 0)] fun tI =>
 br tI (
 R v2) (
 H7 w0 E R x2 ar dV v1 bZ v10 da)
def H9 (w0 : World) (E R : Value → W) (dr : Value) (iV : Value → W) : W :=
 pr (.aH .add) [dr, (vi 1)] fun vI =>
 iV vI
def Ia (w0 : World) (E R : Value → W) (dr : Value) (iV : Value → W) (v80 : Value) : W :=
 br v80 (
 R (.bool false)) (
 H9 w0 E R dr iV)
def Ib (w0 : World) (E R : Value → W) (v20 dr v10 v4 v9 : Value) (iV : Value → W) : W :=
 pr (.di 1) [v20, dr] fun tJ =>
 pr (.aB) [tJ] fun Hy =>
 pr (.lookup 0 (.bool false) false) [v10, Hy] fun yi =>
 pr (.eL) [yi] fun lV =>
 gd lV true (fun k => k v4) fun v70 =>
 gd lV true (fun k => k v9) fun Pz =>
 gd lV true (fun k => pr (.di 1) [v70, Pz] k) fun v72 =>
 gd lV true (fun k => pr (.aB) [v72] k) fun Hz =>
 gd lV true (fun k => k v20) fun HA =>
 gd lV true (fun k => k dr) fun v75 =>
 gd lV true (fun k => pr (.di 1) [HA, v75] k) fun v76 =>
 gd lV true (fun k => pr (.aB) [v76] k) fun PA =>
 gd lV true (fun k => cl PP w0 HZ [Hz, PA] E k) fun HB =>
 gd lV true (fun k => pr (.eL) [HB] k) fun HC =>
 pr (.pick) [lV, HC, (.bool false)] fun v80 =>
 Ia w0 E R dr iV v80
def CM (w0 : World) (E R : Value → W) (v20 v10 v4 v9 v1 bZ v2 x2 ar : Value) (da : Value → Value → W) (iV : Value → W) (dr : Value) : W :=
 pr (.cW) [v20] fun yj =>
 pr (.aH .lss) [dr, yj] fun PB =>
 br PB (
 Ib w0 E R v20 dr v10 v4 v9 iV) (
 H8 w0 E R v1 bZ v2 x2 ar v10 da)
def Ic (w0 : World) (E R : Value → W) (v1 bZ v10 v4 v9 v2 x2 ar : Value) (da : Value → Value → W) : W :=
 pr (.fieldAddr 5) [v1] fun eU =>
 pr (.aB) [eU] fun eK =>
 pr (.di 4) [eK, bZ] fun ch =>
 pr (.bB 4) [ch] fun fb =>
 cl PP w0 Cu [fb] E fun v20 =>
 LP (α := Value) (fun k a => CM w0 E R v20 v10 v4 v9 v1 bZ v2 x2 ar da k a) ((vi 0))
def CN (w0 : World) (E R : Value → W) (x2 v1 v10 v4 v9 v2 : Value) (da : Value → Value → W) (bZ ar : Value) : W :=
 pr (.cW) [x2] fun HD =>
 pr (.aH .lss) [ar, HD] fun HE =>
 br HE (
 Ic w0 E R v1 bZ v10 v4 v9 v2 x2 ar da) (
 H0 w0 E R v2)
def Ie (w0 : World) (E R : Value → W) (x1 v1 x2 v4 v2 : Value) : W :=
 pr (.conv .i64) [x1] fun v5 =>
 pr (.fieldAddr 5) [v1] fun v6 =>
 pr (.aB) [v6] fun v7 =>
 pr (.cW) [v7] fun v8 =>
 pr (.aH .rem) [v5, v8] fun v9 =>
 pr (.mkMap) [] fun v10 =>
 LP (α := Value × Value) (fun k a => CN w0 E R x2 v1 v10 v4 v9 v2 (fun b0 b1 => k (b0, b1)) a.1 a.2) (v9, (vi 0))
def Ig (w0 : World) (E R : Value → W) (v1 x1 x2 v2 : Value) : W :=
 pr (.bB 7) [v1] fun v3 =>
 cl PP w0 Hv [v3] E fun v4 =>
 pr (.cW) [v4] fun v85 =>
 pr (.fieldAddr 5) [v1] fun yk =>
 pr (.aB) [yk] fun v87 =>
 pr (.cW) [v87] fun PC =>
 pr (.aH .neq) [v85, PC] fun HF =>
 br HF (
 R (.bool false)) (
 Ie w0 E R x1 v1 x2 v4 v2)
def Ih (w0 : World) (E R : Value → W) (v2 v1 x1 x2 oK : Value) : W :=
 br oK (
 R v2) (
 Ig w0 E R v1 x1 x2 v2)
def PU (w0 : World) (E R : Value → W) (x0 x1 x2 : Value) : W :=
 pr (.box 25) [x0] fun v1 =>
 cl PP w0 Ii [] E fun v2 =>
 pr (.bB 7) [v1] fun HG =>
 cl PP w0 HV [HG] E fun v91 =>
 pr (.eL) [v91] fun vJ =>
 gd vJ false (fun k => k x2) fun v93 =>
 gd vJ false (fun k => pr (.cW) [v93] k) fun HI =>
 gd vJ false (fun k => pr (.aH .gtr) [HI, (vi 60)] k) fun HJ =>
 pr (.pick) [vJ, (.bool true), HJ] fun oK =>
 Ih w0 E R v2 v1 x1 x2 oK
theorem Zf {w0 : World} {h : AH} {Q : CR → AH → Prop} (x0 x1 x2 : Value) (H : PU w0 (fun v h => Q (.az v) h) (fun v h => Q (.ret v) h) x0 x1 x2 h) : WF PP w0 PV [x0, x1, x2] h Q :=
 eJ bt e9 [[jr, oL], [pS]] (by kernel_rfl) (Eq.mp (by kernel_rfl) H)
end
end Go.Ve.T
namespace Go.Ve
open Go.RowKit
open Classical
noncomputable section
structure Sub (g h : AH) : Prop where
 nx : g.nx ≤ h.nx
 get : ∀ f x, g.ob.get f = some x → h.ob.get f = some x
theorem Sub.refl (g : AH) : Sub g g := ⟨Nat.le_refl _, fun _ _ h => h⟩
theorem Sub.trans {a b c : AH} (h1 : Sub a b) (h2 : Sub b c) : Sub a c := ⟨Nat.le_trans h1.nx h2.nx, fun f x h => h2.get f x (h1.get f x h)⟩
theorem Sub.rd {g h : AH} (S : Sub g h) {b o : Nat} {v : Value} (hr : g.rd b o = some v) : h.rd b o = some v := by
 unfold AH.rd at hr ⊢
 cases hg : g.ob.get b with
 | none => rw [hg] at hr; cases hr
 | some x => rw [S.get b x hg]; rw [hg] at hr; exact hr
theorem Sub.aW {g h : AH} (S : Sub g h) {b o : Nat} {l : List Value} (hr : g.aW b o l) : h.aW b o l := fun i v hv => S.rd (hr i v hv)
def aw {α β : Type} (R : α → β → Prop) (l : List α) (m : List β) : Prop := l.length = m.length ∧ ∀ (i : Nat) x y, l[i]? = some x → m[i]? = some y → R x y
section
variable {α β : Type} {R R' : α → β → Prop} {l l2 : List α} {m m2 : List β}
theorem aw.nil : aw R [] [] := ⟨rfl, fun i x y h => by simp at h⟩
theorem aw.mono (H : aw R l m) (hm : ∀ x y, R x y → R' x y) : aw R' l m := ⟨H.1, fun i x y h1 h2 => hm x y (H.2 i x y h1 h2)⟩
theorem aw.get (H : aw R l m) {i : Nat} {y : β} (hy : m[i]? = some y) : ∃ x, l[i]? = some x ∧ R x y := by
 have hi : i < m.length := (List.getElem?_eq_some_iff.1 hy).1
 have hl : i < l.length := by rw [H.1]; exact hi
 exact ⟨l[i], List.getElem?_eq_getElem hl, H.2 i _ _ (List.getElem?_eq_getElem hl) hy⟩
theorem aw.append (H : aw R l m) (H2 : aw R l2 m2) : aw R (l ++ l2) (m ++ m2) := by
 refine ⟨by simp [H.1, H2.1], fun i x y hx hy => ?_⟩
 by_cases hi : i < l.length
 · rw [List.getElem?_append_left hi] at hx
   rw [List.getElem?_append_left (by rw [← H.1]; exact hi)] at hy
   exact H.2 i x y hx hy
 · rw [List.getElem?_append_right (by omega)] at hx
   rw [List.getElem?_append_right (by rw [← H.1]; omega), ← H.1] at hy
   exact H2.2 _ x y hx hy
theorem aw.one {x : α} {y : β} (h : R x y) : aw R [x] [y] := ⟨rfl, fun i a b ha hb => by
 cases i with
 | zero => simp at ha hb; subst ha; subst hb; exact h
 | succ i => simp at ha⟩
theorem aw.push {x : α} {y : β} (H : aw R l m) (h : R x y) : aw R (l ++ [x]) (m ++ [y]) := H.append (.one h)
theorem aw.set {x : α} {y : β} (H : aw R l m) (h : R x y) (i : Nat) : aw R (l.set i x) (m.set i y) := by
 refine ⟨by simp [H.1], fun j a b ha hb => ?_⟩
 rw [List.getElem?_set] at ha hb
 by_cases e : i = j
 · subst e
   rw [if_pos rfl] at ha hb
   split at ha
   · cases ha
     split at hb
     · cases hb; exact h
     · cases hb
   · cases ha
 · rw [if_neg e] at ha hb; exact H.2 j a b ha hb
theorem aw.take (H : aw R l m) (n : Nat) : aw R (l.take n) (m.take n) := ⟨by simp [H.1], fun i x y hx hy => by
 rw [List.getElem?_take] at hx hy
 split at hx
 · rename_i hi; rw [if_pos hi] at hy; exact H.2 i x y hx hy
 · cases hx⟩
theorem aw.drop (H : aw R l m) (n : Nat) : aw R (l.drop n) (m.drop n) := ⟨by simp [H.1], fun i x y hx hy => by
 rw [List.getElem?_drop] at hx hy; exact H.2 _ x y hx hy⟩
theorem aw.Va {x : α} {y : β} (h : R x y) : ∀ n, aw R (List.replicate n x) (List.replicate n y)
 | 0 => .nil
 | n + 1 => ⟨by simp, fun i a b ha hb => by
  have h1 := List.mem_of_getElem? ha
  have h2 := List.mem_of_getElem? hb
  rw [(List.mem_replicate.1 h1).2, (List.mem_replicate.1 h2).2]; exact h⟩
end
def ix {α : Type} (l : List α) : Int → Option α
 | .ofNat n => l[n]?
 | .negSucc _ => none
theorem jU {α : Type} (l : List α) (n : Nat) : ix l (n : Int) = l[n]? := rfl
theorem FD {α : Type} {l : List α} {n : Int} {x : α} (h : ix l n = some x) : ∃ i : Nat, n = i ∧ i < l.length ∧ l[i]? = some x := by
 cases n with
 | ofNat i => exact ⟨i, rfl, (List.getElem?_eq_some_iff.1 h).1, h⟩
 | negSucc i => cases h
theorem bind_some {α β : Type} {o : Option α} {f : α → Option β} {r : β} (h : o.bind f = some r) : ∃ x, o = some x ∧ f x = some r := by
 cases o with
 | none => cases h
 | some x => exact ⟨x, rfl, h⟩
theorem aY {α : Type} {c : Bool} {a b r : α} (hc : c = true) (h : (bif c then a else b) = r) : a = r := by subst hc; exact h
theorem aZ {α : Type} {c : Bool} {a b r : α} (hc : c = false) (h : (bif c then a else b) = r) : b = r := by subst hc; exact h
def gu {α : Type} (c : Bool) (k : Option α) : Option α := bif c then k else none
theorem ml {α : Type} {c : Bool} {k : Option α} {r : α} (h : gu c k = some r) : c = true ∧ k = some r := by
 cases c with
 | false => cases h
 | true => exact ⟨rfl, h⟩
abbrev eY (α : Type) := AH → List Value → α → Prop
def od {α : Type} (rep : eY α) : Prop := ∀ g g' vs x, Sub g g' → rep g vs x → rep g' vs x
def Vb (sz n cap : Nat) : Prop := n < aT ∧ ((n ≤ cap ∧ cap < aT) ∨ cap = aT + sz)
inductive fX (g : AH) (sz : Nat) : Value → List (List Value) → Prop where
 | nil : fX g sz cP []
 | mk (b o n cap : Nat) (ls : List (List Value)) (hn : n = ls.length) (hc : Vb sz n cap) (hs : ∀ x ∈ ls, x.length = sz) (hr : g.aW b o ls.flatten) : fX g sz (eB b o n cap) ls
theorem fX.mono {g g' : AH} {sz : Nat} {v : Value} {ls : List (List Value)} (S : Sub g g') (H : fX g sz v ls) : fX g' sz v ls := by
 cases H with
 | nil => exact .nil
 | mk b o n cap ls hn hc hs hr => exact .mk b o n cap ls hn hc hs (S.aW hr)
def ae {α : Type} (rep : eY α) (sz : Nat) (g : AH) (v : Value) (l : List α) : Prop := ∃ ls, fX g sz v ls ∧ aw (rep g) ls l
theorem ae.mono {α : Type} {rep : eY α} {sz : Nat} {g g' : AH} {v : Value} {l : List α} (H : ae rep sz g v l) (hm : od rep) (S : Sub g g') : ae rep sz g' v l := by
 obtain ⟨ls, h1, h2⟩ := H
 exact ⟨ls, h1.mono S, h2.mono fun x y h => hm _ _ _ _ S h⟩
theorem ae.nil {α : Type} {rep : eY α} {sz : Nat} {g : AH} : ae rep sz g cP [] := ⟨[], .nil, .nil⟩
theorem fX.one {g : AH} {sz : Nat} {v : Value} {ls : List (List Value)} (H : fX g sz v ls) : dR v = true := by cases H <;> rfl
theorem ae.one {α : Type} {rep : eY α} {sz : Nat} {g : AH} {v : Value} {l : List α} (H : ae rep sz g v l) : dR v = true := by obtain ⟨ls, h1, _⟩ := H; exact h1.one
def rI (k : IntKind) : eY Int := fun _ vs x => vs = [.int k x]
def rB : eY Bool := fun _ vs x => vs = [.bool x]
def rS : eY ByteArray := fun _ vs x => vs = [.string x]
def rL {α : Type} (rep : eY α) (sz : Nat) : eY (List α) := fun g vs x => ∃ v, vs = [v] ∧ ae rep sz g v x
theorem gK (k : IntKind) : od (rI k) := fun _ _ _ _ _ h => h
theorem AR : od rB := fun _ _ _ _ _ h => h
theorem AM {α : Type} {rep : eY α} {sz : Nat} (hm : od rep) : od (rL rep sz) := fun _ _ _ _ S ⟨v, h1, h2⟩ => ⟨v, h1, h2.mono hm S⟩
theorem oe {sz : Nat} : ∀ {l : List (List Value)}, (∀ x ∈ l, x.length = sz) → l.flatten.length = l.length * sz
 | [], _ => by simp
 | x :: l, hs => by
  rw [List.flatten_cons, List.length_append, hs x List.mem_cons_self, oe fun y hy => hs y (List.mem_cons_of_mem _ hy), List.length_cons, Nat.add_mul]; omega
theorem MC {sz : Nat} : ∀ {l : List (List Value)} (n : Nat), (∀ x ∈ l, x.length = sz) → (l.drop n).flatten = l.flatten.drop (n * sz)
 | [], n, _ => by simp
 | x :: l, 0, _ => by simp
 | x :: l, n + 1, hs => by
  rw [List.drop_succ_cons, List.flatten_cons, MC n fun y hy => hs y (List.mem_cons_of_mem _ hy), List.drop_append, List.drop_of_length_le (l := x) (by rw [hs x List.mem_cons_self, Nat.add_mul]; omega), List.nil_append, hs x List.mem_cons_self]
  congr 1
  rw [Nat.add_mul]; omega
theorem MD {sz : Nat} : ∀ {l : List (List Value)} (n : Nat), (∀ x ∈ l, x.length = sz) → (l.take n).flatten = l.flatten.take (n * sz)
 | [], n, _ => by simp
 | x :: l, 0, _ => by simp
 | x :: l, n + 1, hs => by
  rw [List.take_succ_cons, List.flatten_cons, List.flatten_cons, MD n fun y hy => hs y (List.mem_cons_of_mem _ hy), List.take_append, hs x List.mem_cons_self, List.take_of_length_le (show x.length ≤ (n + 1) * sz by rw [hs x List.mem_cons_self, Nat.add_mul]; omega)]
  congr 2
  rw [Nat.add_mul]; omega
theorem Vc {sz : Nat} : ∀ {l : List (List Value)} {i : Nat} {y : List Value}, (∀ x ∈ l, x.length = sz) → y.length = sz → i < l.length → ∀ j, (l.set i y).flatten[j]? = if i * sz ≤ j ∧ j < i * sz + sz then y[j - i * sz]? else l.flatten[j]?
 | [], i, y, _, _, h, j => by simp at h
 | x :: l, 0, y, hs, hy, _, j => by
  have hx := hs x List.mem_cons_self
  rw [List.set_cons_zero, List.flatten_cons, List.flatten_cons, Nat.zero_mul, Nat.zero_add]
  by_cases hj : j < sz
  · rw [if_pos ⟨Nat.zero_le _, hj⟩, List.getElem?_append_left (by omega)]; rfl
  · rw [if_neg (fun h => hj h.2), List.getElem?_append_right (by omega), List.getElem?_append_right (by omega), hx, hy]
 | x :: l, i + 1, y, hs, hy, hi, j => by
  have hx := hs x List.mem_cons_self
  rw [List.set_cons_succ, List.flatten_cons, List.flatten_cons]
  have e : (i + 1) * sz = i * sz + sz := by rw [Nat.add_mul]; omega
  by_cases hj : j < sz
  · rw [List.getElem?_append_left (by omega), if_neg (by omega), List.getElem?_append_left (by omega)]
  · rw [List.getElem?_append_right (by omega), List.getElem?_append_right (by omega), Vc (fun z hz => hs z (List.mem_cons_of_mem _ hz)) hy (by simpa using hi), hx, e]
    by_cases h2 : i * sz ≤ j - sz ∧ j - sz < i * sz + sz
    · rw [if_pos h2, if_pos (by omega)]; congr 1; omega
    · rw [if_neg h2, if_neg (by omega)]
theorem ME {h : AH} {b o : Nat} {l : List Value} (n : Nat) (H : h.aW b o l) : h.aW b o (l.take n) := fun i v hv => H i v (by
 rw [List.getElem?_take] at hv; split at hv
 · exact hv
 · cases hv)
theorem MG {h : AH} {b o : Nat} {l : List Value} (n : Nat) (H : h.aW b o l) : h.aW b (o + n) (l.drop n) := fun i v hv => by
 rw [List.getElem?_drop] at hv
 have := H (n + i) v hv
 rwa [show o + n + i = o + (n + i) by omega]
inductive du (h : AH) (ty : TypeId) (sz : Nat) : Value → List (List Value) → Prop where
 | nil : du h ty sz cP []
 | un (b o n lo hi : Nat) (c : NT Value) (ls : List (List Value)) (hn : n = ls.length) (hb : n < aT) (hg : h.ob.get b = some (.cells lo hi ty true c)) (h1 : lo ≤ o) (h2 : o + n * sz ≤ hi) (hr : h.aW b o ls.flatten) (hs : ∀ x ∈ ls, x.length = sz) : du h ty sz (eB b o n (aT + sz)) ls
 | kn (b o n cap lo hi : Nat) (bI : TypeId) (c : NT Value) (ls : List (List Value)) (hn : n = ls.length) (hb : n ≤ cap) (hc : cap < aT) (hg : h.ob.get b = some (.cells lo hi bI true c)) (h1 : lo ≤ o) (h2 : o + cap * sz ≤ hi) (hr : h.aW b o ls.flatten) (hs : ∀ x ∈ ls, x.length = sz) : du h ty sz (eB b o n cap) ls
def dA : Value → List Nat
 | .slice (some a) _ _ => [a.block]
 | _ => []
theorem du.one {h : AH} {ty : TypeId} {sz : Nat} {v : Value} {ls : List (List Value)} (H : du h ty sz v ls) : dR v = true := by cases H <;> rfl
theorem du.read {h : AH} {ty : TypeId} {sz : Nat} {v : Value} {ls : List (List Value)} (H : du h ty sz v ls) : fX h sz v ls := by
 cases H with
 | nil => exact .nil
 | un b o n lo hi c ls hn hb hg h1 h2 hr hs => exact .mk b o n _ ls hn ⟨hb, .inr rfl⟩ hs hr
 | kn b o n cap lo hi bI c ls hn hb hc hg h1 h2 hr hs => exact .mk b o n cap ls hn ⟨by omega, .inl ⟨hb, hc⟩⟩ hs hr
theorem qN {h h' : AH} {b o : Nat} {l : List Value} (e : h'.ob.get b = h.ob.get b) (H : h.aW b o l) : h'.aW b o l := fun i v hv => by
 have := H i v hv
 unfold AH.rd at this ⊢
 rw [e]; exact this
theorem du.xf {h h' : AH} {ty : TypeId} {sz : Nat} {v : Value} {ls : List (List Value)} (H : du h ty sz v ls) (e : ∀ b ∈ dA v, h'.ob.get b = h.ob.get b) : du h' ty sz v ls := by
 cases H with
 | nil => exact .nil
 | un b o n lo hi c ls hn hb hg h1 h2 hr hs =>
  have e := e b (by simp [dA])
  exact .un b o n lo hi c ls hn hb (e.trans hg) h1 h2 (qN e hr) hs
 | kn b o n cap lo hi bI c ls hn hb hc hg h1 h2 hr hs =>
  have e := e b (by simp [dA])
  exact .kn b o n cap lo hi bI c ls hn hb hc (e.trans hg) h1 h2 (qN e hr) hs
inductive Ob where
 | bx (b : Nat) (l : List Value)
 | sl (ty : TypeId) (sz : Nat) (v : Value) (ls : List (List Value))
 | lp (n : Nat) (lo : LO) (st : LoopState) (pd : Option Code)
 | ds (d : List Nat)
 | mp (b : Nat) (es : List (Value × Value × Nat)) (cl : Nat)
 | raw (b : Nat) (a : AO)
def Ob.bg : Ob → List Nat
 | .bx b _ => [b]
 | .sl _ _ v _ => dA v
 | .lp n _ _ _ => [n]
 | .ds d => d
 | .mp b _ _ => [b]
 | .raw b _ => [b]
def Ob.ok (h : AH) : Ob → Prop
 | .bx b l => h.aW b 0 l ∧ h.can b 0 l.length
 | .sl ty sz v ls => du h ty sz v ls
 | .lp n lo st pd => h.ob.get n = some (lo st pd)
 | .ds d => ∀ r ∈ d, h.ob.get r = some (.defs false)
 | .mp b es cl => h.ob.get b = some (.map es cl)
 | .raw b a => h.ob.get b = some a
theorem afx {h h' : AH} {b o n : Nat} (e : h'.ob.get b = h.ob.get b) (H : h.can b o n) : h'.can b o n := by
 obtain ⟨lo, hi, ty, c, h1, h2, h3⟩ := H
 exact ⟨lo, hi, ty, c, e.trans h1, h2, h3⟩
theorem Ob.xf {h h' : AH} {o : Ob} (H : o.ok h) (e : ∀ b ∈ o.bg, h'.ob.get b = h.ob.get b) : o.ok h' := by
 cases o with
 | bx b l =>
  have e := e b (by simp [Ob.bg])
  exact ⟨qN e H.1, afx e H.2⟩
 | sl ty sz v ls => exact du.xf H e
 | lp n lo st pd => exact (e n (by simp [Ob.bg])).trans H
 | ds d => exact fun r hr => (e r hr).trans (H r hr)
 | mp b es cl => exact (e b (by simp [Ob.bg])).trans H
 | raw b a => exact (e b (by simp [Ob.bg])).trans H
structure Cx where
 g : AH
 h : AH
 C : List Nat
structure Sep (c : Cx) (g h : AH) (Γ : List Ob) : Prop where
 bT : Sub c.g g
 sub : Sub g h
 ok : h.Ok
 nx : c.h.nx ≤ h.nx
 old : ∀ f, f < c.h.nx → f ∉ c.C → h.ob.get f = c.h.ob.get f ∧ (c.g.ob.get f = none → g.ob.get f = none)
 de : ∀ o ∈ Γ, o.ok h
 nd : (Γ.flatMap Ob.bg).Nodup
 own : ∀ b ∈ Γ.flatMap Ob.bg, b < h.nx ∧ g.ob.get b = none ∧ (c.h.nx ≤ b ∨ b ∈ c.C)
section
variable {c : Cx} {g h h' g' : AH} {Γ Γ' : List Ob} {o : Ob}
theorem Sep.start (S : Sub g h) (ok : h.Ok) : Sep ⟨g, h, []⟩ g h [] := ⟨.refl _, S, ok, Nat.le_refl _, fun f _ _ => ⟨rfl, id⟩, fun o ho => by simp at ho, by simp, fun b hb => by simp at hb⟩
theorem Sep.perm (S : Sep c g h Γ) (p : Γ'.Perm Γ) : Sep c g h Γ' :=
 have pf : (Γ'.flatMap Ob.bg).Perm (Γ.flatMap Ob.bg) := p.flatMap_right _
 ⟨S.bT, S.sub, S.ok, S.nx, S.old, fun o ho => S.de o (p.mem_iff.1 ho), pf.nodup_iff.2 S.nd, fun b hb => S.own b (pf.mem_iff.1 hb)⟩
theorem Vd {α : Type} : ∀ {l : List α} {i : Nat} {x : α}, l[i]? = some x → (x :: l.eraseIdx i).Perm l
 | [], i, x, h => by simp at h
 | y :: l, 0, x, h => by simp at h; subst h; exact .refl _
 | y :: l, i + 1, x, h => by
  have := Vd (l := l) (i := i) (x := x) (by simpa using h)
  exact (List.Perm.swap y x _).trans (this.cons y)
theorem Sep.front (S : Sep c g h Γ) (i : Nat) (hi : Γ[i]? = some o) (e : Γ.eraseIdx i = Γ') : Sep c g h (o :: Γ') := e ▸ S.perm (Vd hi)
theorem Sep.drop (S : Sep c g h (o :: Γ)) : Sep c g h Γ :=
 ⟨S.bT, S.sub, S.ok, S.nx, S.old, fun x hx => S.de x (List.mem_cons_of_mem _ hx), by have := S.nd; rw [List.flatMap_cons] at this; exact (List.nodup_append.1 this).2.1, fun b hb => S.own b (by rw [List.flatMap_cons]; exact List.mem_append_right _ hb)⟩
theorem Sep.bA (S : Sep c g h Γ) : Sep c g h [] :=
 ⟨S.bT, S.sub, S.ok, S.nx, S.old, fun x hx => by simp at hx, by simp, fun b hb => by simp at hb⟩
theorem Sep.apart (S : Sep c g h (o :: Γ)) {b : Nat} (hb : b ∈ o.bg) : b ∉ Γ.flatMap Ob.bg := fun bG => by
 have := S.nd
 rw [List.flatMap_cons] at this
 exact (List.nodup_append.1 this).2.2 b hb b bG rfl
theorem Sep.change (S : Sep c g h (o :: Γ)) (o' : Ob) (uS : h'.Ok) (o3 : h.nx ≤ h'.nx) (bS : ∀ f, f < h.nx → f ∉ o.bg → h'.ob.get f = h.ob.get f) (ho : o'.ok h') (mm : o'.bg.Nodup)
 (hb : ∀ b ∈ o'.bg, b < h'.nx ∧ (h.nx ≤ b ∨ b ∈ o.bg)) : Sep c g h' (o' :: Γ) := by
 have own := fun b hb => S.own b (show b ∈ (o :: Γ).flatMap Ob.bg from hb)
 have MH : ∀ b ∈ o.bg, b < h.nx ∧ g.ob.get b = none ∧ (c.h.nx ≤ b ∨ b ∈ c.C) := fun b hb => own b (by rw [List.flatMap_cons]; exact List.mem_append_left _ hb)
 have afy : ∀ f, h.nx ≤ f → g.ob.get f = none := fun f hf => by
  cases hg : g.ob.get f with
  | none => rfl
  | some x => have := S.sub.get f x hg; rw [S.ok f hf] at this; cases this
 refine ⟨S.bT, ⟨Nat.le_trans S.sub.nx o3, fun f x hx => ?_⟩, uS, Nat.le_trans S.nx o3, fun f hf hc => ?_, fun x hx => ?_, ?_, fun b bG => ?_⟩
 · have h1 := S.sub.get f x hx
   have bz : f < h.nx := AH.lt_of_get S.ok h1
   rw [bS f bz (fun hm => by rw [(MH f hm).2.1] at hx; cases hx)]; exact h1
 · obtain ⟨h1, h2⟩ := S.old f hf hc
   refine ⟨?_, h2⟩
   rw [bS f (Nat.lt_of_lt_of_le hf S.nx) (fun hm => by exact (MH f hm).2.2.elim (fun h3 => by omega) hc)]; exact h1
 · rcases List.mem_cons.1 hx with rfl | hx
   · exact ho
   · refine Ob.xf (S.de x (List.mem_cons_of_mem _ hx)) fun b kQ => ?_
     have hm : b ∈ Γ.flatMap Ob.bg := List.mem_flatMap.2 ⟨x, hx, kQ⟩
     have bz := (own b (by rw [List.flatMap_cons]; exact List.mem_append_right _ hm)).1
     exact bS b bz fun zi => S.apart zi hm
 · rw [List.flatMap_cons]
   refine List.nodup_append.2 ⟨mm, S.drop.nd, fun a ha b kQ e => ?_⟩
   subst e
   rcases (hb a ha).2 with h1 | h1
   · have := (S.drop.own a kQ).1; omega
   · exact S.apart h1 kQ
 · rw [List.flatMap_cons] at bG
   rcases List.mem_append.1 bG with h1 | h1
   · obtain ⟨h2, h3⟩ := hb b h1
     refine ⟨h2, ?_⟩
     rcases h3 with h3 | h3
     · exact ⟨afy b h3, .inl (Nat.le_trans S.nx h3)⟩
     · exact (MH b h3).2
   · obtain ⟨h2, h3⟩ := S.drop.own b h1
     exact ⟨by omega, h3⟩
theorem Sep.add (S : Sep c g h Γ) (o' : Ob) (uS : h'.Ok) (o3 : h.nx ≤ h'.nx) (bS : ∀ f, f < h.nx → h'.ob.get f = h.ob.get f) (ho : o'.ok h') (mm : o'.bg.Nodup) (hb : ∀ b ∈ o'.bg, b < h'.nx ∧ h.nx ≤ b) : Sep c g h' (o' :: Γ) := by
 have S0 : Sep c g h (.sl 0 0 cP [] :: Γ) := ⟨S.bT, S.sub, S.ok, S.nx, S.old, fun x hx => by
  rcases List.mem_cons.1 hx with rfl | hx
  · exact du.nil
  · exact S.de x hx, by rw [List.flatMap_cons]; exact S.nd, fun b hb => S.own b (by rw [List.flatMap_cons] at hb; exact hb)⟩
 exact S0.change o' uS o3 (fun f hf _ => bS f hf) ho mm fun b bG => ⟨(hb b bG).1, .inl (hb b bG).2⟩
theorem Sep.AS (S : Sep c g h Γ) (ty : TypeId) (sz : Nat) : Sep c g h (.sl ty sz cP [] :: Γ) := S.add _ S.ok (Nat.le_refl _) (fun _ _ => rfl) du.nil (by simp [Ob.bg, dA]) (fun b hb => by simp [Ob.bg, dA] at hb)
theorem Sep.bS (S : Sep c g h Γ) (K : cJ h h') (uS : h'.Ok) : Sep c g h' Γ :=
 (Sep.add S (.sl 0 0 cP []) uS K.nx K.get du.nil (by simp [Ob.bg, dA]) (fun b hb => by simp [Ob.bg, dA] at hb)).drop
theorem Sep.call {Γ1 : List Ob} (S : Sep c g h Γ) (S' : Sep ⟨g, h, []⟩ g' h' Γ1) : Sep c g' h' (Γ1 ++ Γ) := by
 have Vf : ∀ b ∈ Γ1.flatMap Ob.bg, b < h'.nx ∧ g'.ob.get b = none ∧ h.nx ≤ b := fun b hb => by
  obtain ⟨h1, h2, h3⟩ := S'.own b hb
  refine ⟨h1, h2, ?_⟩
  rcases h3 with h3 | h3
  · exact h3
  · simp at h3
 have MI : ∀ f, f < h.nx → h'.ob.get f = h.ob.get f ∧ (g.ob.get f = none → g'.ob.get f = none) := fun f hf => S'.old f hf (by simp)
 refine ⟨S.bT.trans S'.bT, S'.sub, S'.ok, Nat.le_trans S.nx S'.nx, fun f hf hc => ?_, fun x hx => ?_, ?_, fun b hb => ?_⟩
 · obtain ⟨h1, h2⟩ := S.old f hf hc
   obtain ⟨h3, h4⟩ := MI f (Nat.lt_of_lt_of_le hf S.nx)
   exact ⟨h3.trans h1, fun hn => h4 (h2 hn)⟩
 · rcases List.mem_append.1 hx with hx | hx
   · exact S'.de x hx
   · refine Ob.xf (S.de x hx) fun b hb => ?_
     exact (MI b (S.own b (List.mem_flatMap.2 ⟨x, hx, hb⟩)).1).1
 · rw [List.flatMap_append]
   refine List.nodup_append.2 ⟨S'.nd, S.nd, fun a ha b hb e => ?_⟩
   subst e
   have := (Vf a ha).2.2
   have := (S.own a hb).1
   omega
 · rw [List.flatMap_append] at hb
   rcases List.mem_append.1 hb with hb | hb
   · obtain ⟨h1, h2, h3⟩ := Vf b hb
     exact ⟨h1, h2, .inl (Nat.le_trans S.nx h3)⟩
   · obtain ⟨h1, h2, h3⟩ := S.own b hb
     exact ⟨Nat.lt_of_lt_of_le h1 S'.nx, (MI b h1).2 h2, h3⟩
def AH.AT (g h : AH) (b : Nat) : AH := ⟨h.nx, g.ob.set b (h.ob.get b)⟩
theorem AH.AU (g h : AH) (b f : Nat) : (g.AT h b).ob.get f = if f = b then h.ob.get b else g.ob.get f := by
 show (g.ob.set b _).get f = _
 rw [NT.cQ]
theorem Sep.freeze (S : Sep c g h (o :: Γ)) {b : Nat} (hb : o.bg = [b]) : Sub g (g.AT h b) ∧ Sep c (g.AT h b) h Γ ∧ (g.AT h b).ob.get b = h.ob.get b := by
 have Vg : b ∈ o.bg := by rw [hb]; simp
 obtain ⟨h1, h2, h3⟩ := S.own b (by rw [List.flatMap_cons]; exact List.mem_append_left _ Vg)
 have sg : Sub g (g.AT h b) := ⟨S.sub.nx, fun f x hx => by
  rw [AH.AU]
  split
  · rename_i e; subst e; rw [h2] at hx; cases hx
  · exact hx⟩
 refine ⟨sg, ⟨S.bT.trans sg, ⟨Nat.le_refl _, fun f x hx => ?_⟩, S.ok, S.nx, fun f hf hc => ?_, S.drop.de, S.drop.nd, fun b' bG => ?_⟩, by rw [AH.AU, if_pos rfl]⟩
 · rw [AH.AU] at hx
   split at hx
   · rename_i e; subst e; exact hx
   · exact S.sub.get f x hx
 · obtain ⟨h4, h5⟩ := S.old f hf hc
   refine ⟨h4, fun hn => ?_⟩
   rw [AH.AU, if_neg]
   · exact h5 hn
   · rintro rfl
     rcases h3 with h3 | h3
     · omega
     · exact hc h3
 · obtain ⟨h4, h5, h6⟩ := S.drop.own b' bG
   refine ⟨h4, ?_, h6⟩
   rw [AH.AU, if_neg]
   · exact h5
   · rintro rfl; exact S.apart Vg bG
theorem Sep.pA {b : Nat} {l : List Value} (S : Sep c g h (.bx b l :: Γ)) : ∃ g', Sub g g' ∧ Sep c g' h Γ ∧ g'.aW b 0 l := by
 obtain ⟨h1, h2, h3⟩ := S.freeze (b := b) rfl
 exact ⟨_, h1, h2, qN h3 (S.de _ List.mem_cons_self).1⟩
theorem Sep.afz {ty : TypeId} {sz : Nat} {v : Value} {ls : List (List Value)} (S : Sep c g h (.sl ty sz v ls :: Γ)) : ∃ g', Sub g g' ∧ Sep c g' h Γ ∧ fX g' sz v ls := by
 have H : du h ty sz v ls := S.de _ List.mem_cons_self
 have R := H.read
 cases R with
 | nil => exact ⟨g, .refl _, S.drop, .nil⟩
 | mk b o n cap ls hn hc hs hr =>
  obtain ⟨h1, h2, h3⟩ := S.freeze (b := b) rfl
  exact ⟨_, h1, h2, .mk b o n cap ls hn hc hs (qN h3 hr)⟩
theorem Sep.fz {α : Type} {rep : eY α} {ty : TypeId} {sz : Nat} {v : Value} {ls : List (List Value)} {l : List α} (S : Sep c g h (.sl ty sz v ls :: Γ)) (A : aw (rep g) ls l) (hm : od rep) : ∃ g', Sub g g' ∧ Sep c g' h Γ ∧ ae rep sz g' v l := by
 obtain ⟨g', h1, h2, h3⟩ := S.afz
 exact ⟨g', h1, h2, ls, h3, A.mono fun x y Ma => hm _ _ _ _ h1 Ma⟩
theorem Sep.back (S : Sep c g h Γ) (S' : Sep c g' h' Γ') (hs : Sub g g') : Sep c g h' Γ' :=
 ⟨S.bT, hs.trans S'.sub, S'.ok, S'.nx, fun f hf hc => ⟨(S'.old f hf hc).1, fun hn => (S.old f hf hc).2 hn⟩, S'.de, S'.nd, fun b hb => by
  obtain ⟨h1, h2, h3⟩ := S'.own b hb
  refine ⟨h1, ?_, h3⟩
  cases hg : g.ob.get b with
  | none => rfl
  | some x => rw [hs.get b x hg] at h2; cases h2⟩
end
end
end Go.Ve
namespace Go.Ve
open Go.RowKit
open Classical
noncomputable section
theorem bE {c : Bool} {A B : W} {h : AH} (ht : c = true → A h) (hf : c = false → B h) : br (.bool c) A B h := by
 cases c with
 | true => exact ht rfl
 | false => exact hf rfl
theorem aD {c want : Bool} {A : (Value → W) → W} {K : Value → W} {h : AH} (e : c = want) (H : A K h) : gd (.bool c) want A K h := by
 subst e; unfold gd; cases c <;> exact H
theorem aC {c want : Bool} {A : (Value → W) → W} {K : Value → W} {h : AH} (e : c ≠ want) (H : K undef h) : gd (.bool c) want A K h := by
 unfold gd; cases c <;> cases want <;> first | exact absurd rfl e | exact H
section
variable {c : Cx} {g h : AH} {Γ : List Ob} {R : Value → AH → Prop}
theorem Sep.dN {b o : Nat} {v : Value} (S : Sep c g h Γ) (hr : g.rd b o = some v) (K : R v h) : WP .aB [av b o] h R := (Ek (S.sub.rd hr)).2 K
theorem Sep.oc {b o n : Nat} {l : List Value} (S : Sep c g h Γ) (hr : g.aW b o l) (hn : l.length = n) (h0 : 0 < n) (K : R (.agg ⟨l⟩) h) : WP (.bB n) [av b o] h R := (El (S.sub.aW hr) hn h0).2 K
theorem Vx {ty : TypeId} {l : List Value} : Ob.ok (h.new ty l) (.bx h.nx l) := ⟨AH.Eh h ty l, AH.TH h ty l (by omega)⟩
theorem Sep.alloc {ty : TypeId} {l : List Value} (S : Sep c g h Γ) (ha : cB l = true) (K : ∀ b h', Sep c g h' (.bx b l :: Γ) → R (av b 0) h') : WP (.alloc ty l) [] h R :=
 (zR ha).2 (K _ _ (S.add _ (AH.se S.ok _ _) (Nat.le_succ _) (cJ.new h ty l).get Vx (by simp [Ob.bg]) (fun b hb => by simp [Ob.bg] at hb; subst hb; exact ⟨Nat.lt_succ_self _, Nat.le_refl _⟩)))
theorem Sep.box {ty : TypeId} {v : Value} (l : List Value) (S : Sep c g h Γ) (hl : cellsOf v = l) (ha : cB l = true) (K : ∀ b h', Sep c g h' (.bx b l :: Γ) → R (av b 0) h') : WP (.box ty) [v] h R := by
 subst hl
 exact (Ej ha).2 (K _ _ (S.add _ (AH.se S.ok _ _) (Nat.le_succ _) (cJ.new h ty _).get Vx (by simp [Ob.bg]) (fun b hb => by simp [Ob.bg] at hb; subst hb; exact ⟨Nat.lt_succ_self _, Nat.le_refl _⟩)))
theorem Sep.bP {b o : Nat} {l : List Value} {v : Value} (S : Sep c g h Γ) (i : Nat) (hi : Γ[i]? = some (.bx b l)) (hv : l[o]? = some v) (K : R v h) : WP .aB [av b o] h R := by
 have := (S.de _ (List.mem_of_getElem? hi)).1 o v hv
 rw [Nat.zero_add] at this
 exact (Ek this).2 K
theorem Sep.cK {b o n : Nat} {l : List Value} (m : List Value) (S : Sep c g h Γ) (i : Nat) (hi : Γ[i]? = some (.bx b l)) (hm : (l.drop o).take n = m) (hn : m.length = n) (h0 : 0 < n) (K : R (.agg ⟨m⟩) h) : WP (.bB n) [av b o] h R := by
 have := ME n (MG o (S.de _ (List.mem_of_getElem? hi)).1)
 rw [Nat.zero_add, hm] at this
 exact (El this hn h0).2 K
theorem Vy {l m : List Value} {o j : Nat} (hl : o + m.length ≤ l.length) : (jP l o m)[j]? = if o ≤ j ∧ j < o + m.length then m[j - o]? else l[j]? := by
 unfold jP
 by_cases h1 : j < o
 · rw [if_neg (by omega), List.append_assoc, List.getElem?_append_left (by rw [List.length_take]; omega), List.getElem?_take, if_pos h1]
 · rw [List.append_assoc, List.getElem?_append_right (by rw [List.length_take]; omega), List.length_take, Nat.min_eq_left (by omega)]
   by_cases h2 : j < o + m.length
   · rw [if_pos (by omega), List.getElem?_append_left (by omega)]
   · rw [if_neg (by omega), List.getElem?_append_right (by omega), List.getElem?_drop]; congr 1; omega
theorem MN {l m : List Value} {o : Nat} (hl : o + m.length ≤ l.length) : (jP l o m).length = l.length := by unfold jP; simp; omega
theorem Sep.c9 {b o n : Nat} {l : List Value} {v : Value} (m l' : List Value) (S : Sep c g h (.bx b l :: Γ)) (hm : cellsOf v = m) (hn : m.length = n) (ha : cB m = true) (ho : o + n ≤ l.length) (fh : jP l o m = l') (K : ∀ h', Sep c g h' (.bx b l' :: Γ) → R undef h') : WP (.store n) [av b o, v] h R := by
 subst hm; subst fh; subst hn
 have H : Ob.ok h (.bx b l) := S.de _ List.mem_cons_self
 obtain ⟨h1, lo, hi, ty, cc, h2, h3, h4⟩ := H
 have hc : h.can b o (cellsOf v).length := ⟨lo, hi, ty, cc, h2, by omega, by omega⟩
 refine (Em hc rfl ha).2 (K _ ?_)
 have bz := AH.lt_of_get S.ok h2
 refine S.change _ (AH.uG S.ok _ _ _) (by rw [AH.lD]; exact Nat.le_refl _) (fun f _ hf => AH.sf h (by simp [Ob.bg] at hf; exact hf)) ⟨fun i u hu => ?_, ?_⟩ (by simp [Ob.bg]) (fun b' bG => by simp [Ob.bg] at bG; subst bG; exact ⟨by rw [AH.lD]; exact bz, .inr (by simp [Ob.bg])⟩)
 · rw [Vy ho] at hu
   rw [Nat.zero_add, AH.wM hc (Nat.le_refl _)]
   split at hu
   · rename_i hh; rw [if_pos ⟨rfl, hh⟩]; exact hu
   · rename_i hh; rw [if_neg (fun e => hh e.2)]; have := h1 i u hu; rwa [Nat.zero_add] at this
 · rw [MN ho]; exact AH.TI ⟨lo, hi, ty, cc, h2, h3, h4⟩
def uV (v : Value) (sz i b o : Nat) : Prop := ∃ o0 n cap, v = eB b o0 n cap ∧ o = o0 + i * sz
theorem fX.len {h2 : AH} {sz : Nat} {v : Value} {ls : List (List Value)} (H : fX h2 sz v ls) (K : R (vi (ls.length : Int)) h) : WP .cW [v] h R := by
 cases H with
 | nil => exact ac9.2 K
 | mk b o n cap ls hn hc hs hr => subst hn; exact ac8.2 K
theorem fX.idx {h2 : AH} {sz : Nat} {v : Value} {ls : List (List Value)} (H : fX h2 sz v ls) {i : Nat} {x : List Value} (hx : ls[i]? = some x) :
 ∃ b o, uV v sz i b o ∧ h2.aW b o x ∧ ∀ (kd : IntKind) (h : AH) (R : Value → AH → Prop), R (av b o) h → WP (.di sz) [v, .int kd (i : Int)] h R := by
 have hi : i < ls.length := (List.getElem?_eq_some_iff.1 hx).1
 cases H with
 | nil => simp at hi
 | mk b o n cap ls hn hc hs hr =>
  subst hn
  refine ⟨b, o + i * sz, ⟨o, _, cap, rfl, rfl⟩, fun j u hu => ?_, fun kd h R K => (ac5 hi).2 K⟩
  have := hr (i * sz + j) u (LH hs hx j u hu)
  rwa [show o + (i * sz + j) = o + i * sz + j by omega] at this
theorem ae.len {α : Type} {rep : eY α} {g2 : AH} {sz : Nat} {v : Value} {l : List α} (F : ae rep sz g2 v l) (K : R (vi (l.length : Int)) h) : WP .cW [v] h R := by
 obtain ⟨ls, h1, h2⟩ := F
 exact h1.len (by rw [h2.1]; exact K)
theorem ae.idx {α : Type} {rep : eY α} {sz : Nat} {v : Value} {l : List α} {n : Int} {x : α} {kd : IntKind} (F : ae rep sz g v l) (hx : ix l n = some x) (K : ∀ b o vs, uV v sz n.toNat b o → g.aW b o vs → rep g vs x → R (av b o) h) : WP (.di sz) [v, .int kd n] h R := by
 obtain ⟨i, rfl, hi, hx⟩ := FD hx
 obtain ⟨ls, h1, h2⟩ := F
 obtain ⟨cs, h3, h4⟩ := h2.get hx
 obtain ⟨b, o, h7, h5, h6⟩ := h1.idx h3
 exact h6 kd h R (K b o cs h7 h5 h4)
theorem Sep.MO {α : Type} {rep : eY α} {ty : TypeId} {sz : Nat} {v : Value} {ls : List (List Value)} {l : List α} (S : Sep c g h Γ) (k : Nat) (hk : Γ[k]? = some (.sl ty sz v ls)) (A : aw (rep g) ls l) (K : R (vi (l.length : Int)) h) : WP .cW [v] h R :=
 fX.len (du.read (S.de _ (List.mem_of_getElem? hk))) (by rw [A.1]; exact K)
theorem Sep.xj {α : Type} {rep : eY α} {ty : TypeId} {sz : Nat} {v : Value} {ls : List (List Value)} {l : List α} {n : Int} {x : α} {kd : IntKind} (S : Sep c g h Γ) (k : Nat) (hk : Γ[k]? = some (.sl ty sz v ls)) (A : aw (rep g) ls l) (hx : ix l n = some x)
 (K : ∀ b o cs, uV v sz n.toNat b o → ls[n.toNat]? = some cs → rep g cs x → R (av b o) h) : WP (.di sz) [v, .int kd n] h R := by
 obtain ⟨i, rfl, hi, hx⟩ := FD hx
 obtain ⟨cs, h3, h4⟩ := A.get hx
 obtain ⟨b, o, h5, _, h6⟩ := (du.read (S.de _ (List.mem_of_getElem? hk))).idx h3
 exact h6 kd h R (K b o cs h5 h3 h4)
theorem fX.elem {h2 : AH} {sz : Nat} {v : Value} {ls : List (List Value)} (H : fX h2 sz v ls) {i b o : Nat} {x : List Value} (hx : ls[i]? = some x) (E : uV v sz i b o) : h2.aW b o x := by
 obtain ⟨b', o', ⟨o0, n, cap, e1, e2⟩, h1, _⟩ := H.idx hx
 obtain ⟨o0', n', cr, e3, e4⟩ := E
 rw [e1] at e3
 cases e3
 rw [e4, ← e2]; exact h1
theorem Sep.MP {ty : TypeId} {sz : Nat} {v u : Value} {ls : List (List Value)} {i b o j : Nat} {cs : List Value} (S : Sep c g h Γ) (k : Nat) (hk : Γ[k]? = some (.sl ty sz v ls)) (E : uV v sz i b o) (hc : ls[i]? = some cs) (hv : cs[j]? = some u) (K : R u h) : WP .aB [av b (o + j)] h R :=
 (Ek (((du.read (S.de _ (List.mem_of_getElem? hk))).elem hc E) j u hv)).2 K
theorem du.wr {ty : TypeId} {sz : Nat} {v : Value} {ls : List (List Value)} {i b o j : Nat} {cs m : List Value} (H : du h ty sz v ls) (E : uV v sz i b o) (hc : ls[i]? = some cs) (hj : j + m.length ≤ sz) :
 dA v = [b] ∧ h.can b (o + j) m.length ∧ du (h.wr b (o + j) m) ty sz v (ls.set i (jP cs j m)) := by
 have hi : i < ls.length := (List.getElem?_eq_some_iff.1 hc).1
 obtain ⟨o0, n0, Vz, e1, e2⟩ := E
 subst e2
 have le : (i + 1) * sz ≤ ls.length * sz := Nat.mul_le_mul_right _ hi
 have hk : i * sz + sz ≤ ls.length * sz := by rw [Nat.add_mul, Nat.one_mul] at le; exact le
 have fl : ∀ (hs : ∀ x ∈ ls, x.length = sz) (q : Nat) (u : Value), (ls.set i (jP cs j m)).flatten[q]? = some u → (if i * sz + j ≤ q ∧ q < i * sz + j + m.length then m[q - (i * sz + j)]? else ls.flatten[q]?) = some u := by
  intro hs q u hu
  have dP : cs.length = sz := hs cs (List.mem_of_getElem? hc)
  rw [Vc hs (by rw [MN (by omega), dP]) hi] at hu
  by_cases h1 : i * sz ≤ q ∧ q < i * sz + sz
  · rw [if_pos h1, Vy (by omega)] at hu
    by_cases h2 : j ≤ q - i * sz ∧ q - i * sz < j + m.length
    · rw [if_pos h2] at hu; rw [if_pos (by omega)]; rw [show q - (i * sz + j) = q - i * sz - j by omega]; exact hu
    · rw [if_neg h2] at hu; rw [if_neg (by omega)]
      have := LH hs hc (q - i * sz) u hu
      rwa [show i * sz + (q - i * sz) = q by omega] at this
  · rw [if_neg h1] at hu; rw [if_neg (by omega)]; exact hu
 have VA : ∀ (hs : ∀ x ∈ ls, x.length = sz), ∀ x ∈ ls.set i (jP cs j m), x.length = sz := fun hs x hx => by
  rcases List.mem_or_eq_of_mem_set hx with h1 | h1
  · exact hs x h1
  · have dP : cs.length = sz := hs cs (List.mem_of_getElem? hc)
    rw [h1, MN (by omega), dP]
 have VB : ∀ lo hi bI cc, h.ob.get b = some (.cells lo hi bI true cc) → (h.wr b (o0 + i * sz + j) m).ob.get b = some (.cells lo hi bI true (ik cc (o0 + i * sz + j) m)) := fun lo hi bI cc hg => by
  unfold AH.wr; rw [hg]; show (h.ob.set b _).get b = _; rw [NT.cQ, if_pos rfl]
 cases H with
 | nil => simp at hi
 | un b' o' n lo cI cc ls hn hb hg h1 h2 hr hs =>
  cases e1
  have fH : h.can b (o0 + i * sz + j) m.length := ⟨lo, cI, ty, cc, hg, by omega, by rw [hn] at h2; omega⟩
  refine ⟨rfl, fH, .un b o0 n0 lo cI _ _ (by simp [hn]) hb (VB _ _ _ _ hg) h1 h2 (fun q u hu => ?_) (VA hs)⟩
  rw [AH.wM fH (Nat.le_refl _)]
  have := fl hs q u hu
  split at this
  · rw [if_pos (by omega)]; rw [show o0 + q - (o0 + i * sz + j) = q - (i * sz + j) by omega]; exact this
  · rw [if_neg (by omega)]; exact hr q u this
 | kn b' o' n cap lo cI bI cc ls hn hb nT hg h1 h2 hr hs =>
  cases e1
  have : ls.length * sz ≤ Vz * sz := Nat.mul_le_mul_right _ (by omega)
  have fH : h.can b (o0 + i * sz + j) m.length := ⟨lo, cI, bI, cc, hg, by omega, by omega⟩
  refine ⟨rfl, fH, .kn b o0 n0 Vz lo cI bI _ _ (by simp [hn]) hb nT (VB _ _ _ _ hg) h1 h2 (fun q u hu => ?_) (VA hs)⟩
  rw [AH.wM fH (Nat.le_refl _)]
  have := fl hs q u hu
  split at this
  · rw [if_pos (by omega)]; rw [show o0 + q - (o0 + i * sz + j) = q - (i * sz + j) by omega]; exact this
  · rw [if_neg (by omega)]; exact hr q u this
theorem du.lt {ty : TypeId} {sz : Nat} {v : Value} {ls : List (List Value)} (H : du h ty sz v ls) (ok : h.Ok) : ∀ b ∈ dA v, b < h.nx := by
 cases H with
 | nil => intro b hb; simp [dA] at hb
 | un b o n lo hi c ls hn hb hg h1 h2 hr hs => intro b' bG; simp [dA] at bG; subst bG; exact AH.lt_of_get ok hg
 | kn b o n cap lo hi bI c ls hn hb hc hg h1 h2 hr hs => intro b' bG; simp [dA] at bG; subst bG; exact AH.lt_of_get ok hg
theorem VC (v : Value) : (dA v).Nodup := by unfold dA; split <;> simp
theorem uW {ty : TypeId} {sz : Nat} {v : Value} {ls : List (List Value)} : (Ob.sl ty sz v ls).bg.Nodup := VC v
theorem Sep.MQ {ty : TypeId} {sz n : Nat} {v u : Value} {ls : List (List Value)} {i b o j : Nat} {cs : List Value} (m : List Value) (S : Sep c g h (.sl ty sz v ls :: Γ)) (E : uV v sz i b o) (hc : ls[i]? = some cs) (hm : cellsOf u = m) (hn : m.length = n) (ha : cB m = true) (hj : j + n ≤ sz)
 (K : ∀ h', Sep c g h' (.sl ty sz v (ls.set i (jP cs j m)) :: Γ) → R undef h') : WP (.store n) [av b (o + j), u] h R := by
 subst hm; subst hn
 have H : du h ty sz v ls := S.de _ List.mem_cons_self
 obtain ⟨h1, h2, h3⟩ := H.wr E hc hj
 refine (Em h2 rfl ha).2 (K _ ?_)
 refine S.change _ (AH.uG S.ok _ _ _) (by rw [AH.lD]; exact Nat.le_refl _) (fun f _ hf => AH.sf h (fun e => hf (by subst e; show f ∈ dA v; rw [h1]; simp))) h3 (VC v) (fun b' bG => ⟨by rw [AH.lD]; exact H.lt S.ok b' bG, .inr bG⟩)
theorem Sep.VD {ty : TypeId} {sz : Nat} {zero : List Value} {n : Int} {k1 k2 : IntKind} (S : Sep c g h Γ) (hn : (decide (0 ≤ n) && decide (n ≤ 65536)) = true) (hz : zero.length = sz) (ha : cB zero = true) (K : ∀ v h', Sep c g h' (.sl ty sz v (List.replicate n.toNat zero) :: Γ) → R v h') :
 WP (.mkSlice ty sz zero) [.int k1 n, .int k2 n] h R := by
 rw [Bool.and_eq_true, decide_eq_true_eq, decide_eq_true_eq] at hn
 obtain ⟨i, rfl⟩ : ∃ i : Nat, n = i := ⟨n.toNat, by omega⟩
 rw [Int.toNat_natCast] at K
 have eO : ∀ k : Nat, cB (List.replicate k zero).flatten = true := by
  intro k
  induction k with
  | zero => rfl
  | succ k ih =>
   rw [List.replicate_succ, List.flatten_cons]
   have app : ∀ (l m : List Value), cB l = true → cB m = true → cB (l ++ m) = true := fun l m h1 h2 => by
    induction l with
    | nil => exact h2
    | cons v l KJ =>
     rw [su, Bool.and_eq_true] at h1
     rw [List.cons_append, su, Bool.and_eq_true]
     exact ⟨h1.1, KJ h1.2⟩
   exact app _ _ ha ih
 refine (adp (Nat.le_refl i) (by omega) hz (eO i)).2 (K _ _ ?_)
 have hlen : (List.replicate i zero).flatten.length = i * sz := by rw [oe (sz := sz) (fun x hx => by rw [(List.mem_replicate.1 hx).2]; exact hz)]; simp
 refine S.add _ (AH.se S.ok _ _) (Nat.le_succ _) (cJ.new h _ _).get ?_ uW (fun b hb => by simp [Ob.bg, dA] at hb; subst hb; exact ⟨Nat.lt_succ_self _, Nat.le_refl _⟩)
 refine .kn h.nx 0 i i 0 (List.replicate i zero).flatten.length ty _ _ (by simp) (Nat.le_refl _) (by unfold aT; omega) (by show (h.ob.set h.nx _).get h.nx = _; rw [NT.cQ, if_pos rfl]) (Nat.le_refl _) (by rw [hlen]; omega) ?_ (fun x hx => by rw [(List.mem_replicate.1 hx).2]; exact hz)
 exact AH.Eh h ty _
theorem Sep.uX {ty : TypeId} {n sz : Nat} {cells : List Value} {ps : List (Nat × Nat)} {vs : List Value} (ls : List (List Value)) (S : Sep c g h Γ) (hf : jQ cells ps vs = some ls.flatten) (hn : ls.length = n) (hu : n < 1000000) (hs : ∀ x ∈ ls, x.length = sz) (ha : cB ls.flatten = true)
 (K : ∀ v h', Sep c g h' (.sl ty sz v ls :: Γ) → R v h') : WP (.buildSlice ty n cells ps) vs h R := by
 subst hn
 refine (ady hf ha).2 (K _ _ ?_)
 refine S.add _ (AH.se S.ok _ _) (Nat.le_succ _) (cJ.new h _ _).get ?_ uW (fun b hb => by simp [Ob.bg, dA] at hb; subst hb; exact ⟨Nat.lt_succ_self _, Nat.le_refl _⟩)
 exact .kn h.nx 0 ls.length ls.length 0 ls.flatten.length ty _ ls rfl (Nat.le_refl _) (by unfold aT; omega) (by show (h.ob.set h.nx _).get h.nx = _; rw [NT.cQ, if_pos rfl]) (Nat.le_refl _) (by rw [oe hs]; omega) (AH.Eh h ty _) hs
theorem fX.src {sz : Nat} {x : Value} {xs : List (List Value)} (H : fX h sz x xs) (h0 : 0 < sz) (k : Nat → List Value → Bool) : kp h sz x k = k xs.length xs.flatten := by
 cases H with
 | nil => exact adq sz k
 | mk b o n cap _ hn hc hs hr =>
  subst hn
  cases xs with
  | nil => exact ads k
  | cons y l => exact adr hr (oe hs) (Nat.mul_pos (by simp) h0) k
theorem VE {b o lo hi at_ : Nat} {ty : TypeId} {rw : Bool} {cc : NT Value} {old xs : List Value} {h2 : AH} (hg2 : h2.ob.get b = some (.cells lo hi ty rw (ik cc at_ xs))) (e : at_ = o + old.length) (h1 : lo ≤ o) (Li : o + old.length + xs.length ≤ hi) (ho : ∀ q u, old[q]? = some u → cc.get (o + q) = some u) : h2.aW b o (old ++ xs) := by
 subst e
 intro q u hu
 have hq : q < (old ++ xs).length := (List.getElem?_eq_some_iff.1 hu).1
 rw [List.length_append] at hq
 unfold AH.rd
 rw [hg2]
 show (if lo ≤ o + q ∧ o + q + 1 ≤ hi then (ik cc (o + old.length) xs).get (o + q) else none) = some u
 rw [if_pos ⟨by omega, by omega⟩, uF]
 by_cases h : q < old.length
 · rw [if_neg (by omega)]
   rw [List.getElem?_append_left h] at hu
   exact ho q u hu
 · rw [if_pos ⟨by omega, by omega⟩]
   rw [List.getElem?_append_right (by omega)] at hu
   rw [show o + q - (o + old.length) = q - old.length by omega]; exact hu
theorem VF {b o lo hi : Nat} {ty : TypeId} {rw : Bool} {cc : NT Value} {l : List Value} (hg : h.ob.get b = some (.cells lo hi ty rw cc)) (hr : h.aW b o l) : ∀ q u, l[q]? = some u → cc.get (o + q) = some u := fun q u hu => by
 obtain ⟨si, cI, bI, ll, c', g1, _, _, g4⟩ := Ei (hr q u hu)
 rw [hg] at g1; cases g1; exact g4
theorem MR {sz : Nat} {ls xs : List (List Value)} (hs : ∀ x ∈ ls, x.length = sz) (hx : ∀ x ∈ xs, x.length = sz) : ∀ x ∈ ls ++ xs, x.length = sz := fun x h => by
 rcases List.mem_append.1 h with h | h
 · exact hs x h
 · exact hx x h
theorem VG {l m : List Value} (h1 : cB l = true) (h2 : cB m = true) : cB (l ++ m) = true := by
 induction l with
 | nil => exact h2
 | cons v l ih =>
  rw [su, Bool.and_eq_true] at h1
  rw [List.cons_append, su, Bool.and_eq_true]
  exact ⟨h1.1, ih h1.2⟩
theorem fX.tN {sz : Nat} {x : Value} {xs : List (List Value)} (H : fX h sz x xs) : ∀ y ∈ xs, y.length = sz := by
 cases H with
 | nil => intro y hy; simp at hy
 | mk b o n cap ls hn hc hs hr => exact hs
theorem afM {ty : TypeId} {sz n : Nat} {zero xs : List Value} {x : Value} (hx : ∀ k : Nat → List Value → Bool, kp h sz x k = k n xs) (h1 : 1 ≤ sz) (hz : zero.length = sz) (hn : 0 < n) {b o cap : Nat} {s : Option Nat} (hb : n ≤ 1048576) (hc : cap < n) (ha : cB xs = true) :
 WP (.append ty sz zero) [.slice (some ⟨b, o, s⟩) 0 cap, x] h R ↔ R (eB h.nx 0 n (aT + sz)) (h.new ty xs) := cm fun k => by
 rw [uI hx h1 hz]
 show (bif Nat.beq n 0 then k (.slice (some ⟨b, o, none⟩) 0 cap) h else fN (Nat.add 0 n) fun gp => iff (Nat.ble gp 1048576) (bif Nat.ble aT cap then _ else bif Nat.ble gp cap then _ else bif Nat.beq 0 0 then jv h ty xs (fun b' h => fN (Nat.add aT sz) fun cp => k (.slice (some ⟨b', 0, none⟩) gp cp) h) else _)) = _
 have e : Nat.ble (0 + n) 1048576 = true := by rw [Nat.ble_eq]; omega
 have e2 : Nat.ble aT cap = false := by
  have : ¬ aT ≤ cap := by unfold aT; omega
  cases hh : Nat.ble aT cap with
  | false => rfl
  | true => rw [Nat.ble_eq] at hh; exact absurd hh this
 have e3 : Nat.ble (0 + n) cap = false := by
  cases hh : Nat.ble (0 + n) cap with
  | false => rfl
  | true => rw [Nat.ble_eq] at hh; omega
 rw [ep (show n ≠ 0 by omega)]
 simp only [cond_false]
 rw [bH, show Nat.add 0 n = 0 + n from rfl, e, eA, e2, e3]
 show jv h ty xs _ = _
 rw [uH h ty ha, bH, Nat.zero_add]; rfl
theorem afN {ty : TypeId} {sz n : Nat} {zero xs : List Value} {x : Value} (hx : ∀ k : Nat → List Value → Bool, kp h sz x k = k n xs) (h1 : 1 ≤ sz) (hz : zero.length = sz) (hn : 0 < n) {b o len cap : Nat} {s : Option Nat} (hb : len + n ≤ 1048576) (hc : len + n ≤ cap) (hu : cap < aT) (ha : cB xs = true) (hw : h.can b (o + len * sz) xs.length) :
 WP (.append ty sz zero) [.slice (some ⟨b, o, s⟩) len cap, x] h R ↔ R (eB b o (len + n) cap) (h.wr b (o + len * sz) xs) := cm fun k => by
 rw [uI hx h1 hz]
 show (bif Nat.beq n 0 then k (.slice (some ⟨b, o, none⟩) len cap) h else fN (Nat.add len n) fun gp => iff (Nat.ble gp 1048576) (bif Nat.ble aT cap then _ else bif Nat.ble gp cap then fN (Nat.add o (Nat.mul len sz)) (fun at_ => o4 h b at_ xs fun h => k (.slice (some ⟨b, o, none⟩) gp cap) h) else _)) = _
 have e : Nat.ble (len + n) 1048576 = true := by rw [Nat.ble_eq]; omega
 have e2 : Nat.ble aT cap = false := by
  cases hh : Nat.ble aT cap with
  | false => rfl
  | true => rw [Nat.ble_eq] at hh; omega
 have e3 : Nat.ble (len + n) cap = true := by rw [Nat.ble_eq]; exact hc
 rw [ep (show n ≠ 0 by omega)]
 simp only [cond_false]
 rw [bH, show Nat.add len n = len + n from rfl, e, eA, e2, e3]
 simp only [cond_true, cond_false]
 rw [bH]
 show o4 h b (o + len * sz) xs _ = _
 rw [KN hw ha]
theorem Sep.app {ty : TypeId} {sz : Nat} {zero : List Value} {s x : Value} {ls xs : List (List Value)} (S : Sep c g h (.sl ty sz s ls :: Γ)) (X : fX h sz x xs) (hb : decide (ls.length + xs.length ≤ 1048576) = true) (h0 : 0 < sz) (hz : zero.length = sz) (ha : cB xs.flatten = true) (FG : cB ls.flatten = true)
 (K : ∀ s' h', Sep c g h' (.sl ty sz s' (ls ++ xs) :: Γ) → R s' h') : WP (.append ty sz zero) [s, x] h R := by
 rw [decide_eq_true_eq] at hb
 have sV := X.src h0
 have ju := X.tN
 have H : du h ty sz s ls := S.de _ List.mem_cons_self
 have MS : xs.flatten.length = xs.length * sz := oe ju
 cases xs with
 | nil =>
  cases H with
  | nil => exact (adt sV h0 hz).2 (K _ _ (by simpa using S))
  | un b o n lo hi cc ls hn uY hg h1 h2 hr hs => exact (TU sV h0 hz).2 (K _ _ (by simpa using S))
  | kn b o n cap lo hi bI cc ls hn uY nT hg h1 h2 hr hs => exact (TU sV h0 hz).2 (K _ _ (by simpa using S))
 | cons y xs =>
  have mW : 0 < (y :: xs).length := by simp
  generalize y :: xs = xs at *
  have afO : ∀ (all : List (List Value)), all.length < aT → (∀ x ∈ all, x.length = sz) → du (h.new ty all.flatten) ty sz (eB h.nx 0 all.length (aT + sz)) all := fun all hu hs => by
   refine .un h.nx 0 all.length 0 all.flatten.length _ all rfl hu (by show (h.ob.set h.nx _).get h.nx = _; rw [NT.cQ, if_pos rfl]) (Nat.le_refl _) ?_ (AH.Eh h ty _) hs
   rw [oe hs]; omega
  have aj2 : 1048576 < aT := by unfold aT; omega
  have fresh : ∀ (all : List (List Value)), all.length < aT → (∀ x ∈ all, x.length = sz) → Sep c g (h.new ty all.flatten) (.sl ty sz (eB h.nx 0 all.length (aT + sz)) all :: Γ) := fun all hu hs =>
   S.change _ (AH.se S.ok _ _) (Nat.le_succ _) (fun f hf _ => (cJ.new h ty _).get f hf) (afO all hu hs) uW (fun b hb => by simp [Ob.bg, dA] at hb; subst hb; exact ⟨Nat.lt_succ_self _, .inl (Nat.le_refl _)⟩)
  cases H with
  | nil =>
   refine (adu sV h0 hz mW (by simpa using hb) ha).2 (K _ _ ?_)
   exact fresh xs (by simp at hb; omega) ju
  | un b o n lo hi cc ls hn uY hg h1 h2 hr hs =>
   subst hn
   refine (adv sV h0 hz mW hb ha hg h1 h2).2 (K _ _ ?_)
   have bz := AH.lt_of_get S.ok hg
   have uU : (h.grown b o ty cc (o + ls.length * sz) (o + (ls.length + xs.length) * sz) xs.flatten).ob.get h.nx = some (.cells o (o + (ls.length + xs.length) * sz) ty true (ik cc (o + ls.length * sz) xs.flatten)) := by
    show ((h.kill b).dH _).ob.get h.nx = _
    rw [AH.pg, if_pos (show h.nx = (h.kill b).nx from rfl)]
   refine S.change _ (AH.wN (AH.TS S.ok b) _) (Nat.le_succ _) (fun f hf cG => ?_) ?_ uW (fun b' bG => by simp [Ob.bg, dA] at bG; subst bG; exact ⟨Nat.lt_succ_self _, .inl (Nat.le_refl _)⟩)
   · have hfb : f ≠ b := fun e => cG (by rw [e]; simp [Ob.bg, dA])
     show ((h.kill b).dH _).ob.get f = _
     rw [AH.pg, if_neg (show ¬ f = (h.kill b).nx from fun e => by have e' : f = h.nx := e; omega), AH.Ev, if_neg hfb]
   · refine .un h.nx o (ls.length + xs.length) o (o + (ls.length + xs.length) * sz) _ (ls ++ xs) (by simp) (by omega) uU (Nat.le_refl _) (Nat.le_refl _) ?_ (MR hs ju)
     rw [List.flatten_append]
     exact VE uU (by rw [oe hs]) (Nat.le_refl _) (by rw [oe hs, MS, Nat.add_mul]; omega) (VF hg hr)
  | kn b o n cap lo hi bI cc ls hn uY nT hg h1 h2 hr hs =>
   subst hn
   by_cases mj : ls.length + xs.length ≤ cap
   · have hmul : (ls.length + xs.length) * sz ≤ cap * sz := Nat.mul_le_mul_right _ mj
     rw [Nat.add_mul] at hmul
     have hw : h.can b (o + ls.length * sz) xs.flatten.length := ⟨lo, hi, bI, cc, hg, by omega, by rw [MS]; omega⟩
     refine (afN sV h0 hz mW hb mj nT ha hw).2 (K _ _ ?_)
     have uU : (h.wr b (o + ls.length * sz) xs.flatten).ob.get b = some (.cells lo hi bI true (ik cc (o + ls.length * sz) xs.flatten)) := by
      unfold AH.wr; rw [hg]; show (h.ob.set b _).get b = _; rw [NT.cQ, if_pos rfl]
     refine S.change _ (AH.uG S.ok _ _ _) (by rw [AH.lD]; exact Nat.le_refl _) (fun f _ hf => AH.sf h (fun e => hf (by rw [e]; simp [Ob.bg, dA]))) ?_ uW (fun b' bG => by simp [Ob.bg, dA] at bG; subst bG; exact ⟨by rw [AH.lD]; exact AH.lt_of_get S.ok hg, .inr (by simp [Ob.bg, dA])⟩)
     refine .kn b o (ls.length + xs.length) cap lo hi bI _ (ls ++ xs) (by simp) mj nT uU h1 h2 ?_ (MR hs ju)
     rw [List.flatten_append]
     exact VE uU (by rw [oe hs]) h1 (by rw [oe hs, MS]; omega) (VF hg hr)
   · have nN := hr
     have MT := fresh (ls ++ xs) (by simp; omega) (MR hs ju)
     rw [List.flatten_append, List.length_append] at MT
     cases ls with
     | nil =>
      have : WP (.append ty sz zero) [eB b o 0 cap, x] h R := (afM sV h0 hz mW (by simpa using hb) (by simp at mj; omega) ha).2 (K _ _ (by simpa using MT))
      simpa using this
     | cons z ls =>
      exact (adw sV h0 hz mW hb (by omega) (VG FG ha) (by simp) hr (oe hs)).2 (K _ _ MT)
def AW {α : Type} (l : List α) (a b : Int) : Option (List α) := gu (decide (0 ≤ a) && decide (a ≤ b) && decide (b ≤ (l.length : Int))) (some ((l.take b.toNat).drop a.toNat))
theorem afP {α : Type} {l m : List α} {a b : Int} (h : AW l a b = some m) : ∃ i j : Nat, a = i ∧ b = j ∧ i ≤ j ∧ j ≤ l.length ∧ m = (l.take j).drop i := by
 obtain ⟨h1, h2⟩ := ml h
 simp only [Bool.and_eq_true, decide_eq_true_eq] at h1
 cases h2
 exact ⟨a.toNat, b.toNat, by omega, by omega, by omega, by omega, rfl⟩
def sW (sz : Nat) (v : Value) (i j : Nat) : Value := match v with
 | .slice (some a) n cap => if cap < aT then (if cap = i then .slice (some ⟨a.block, a.off, none⟩) (j - i) 0 else .slice (some ⟨a.block, a.off + i * sz, none⟩) (j - i) (cap - i)) else .slice (some ⟨a.block, a.off + i * sz, none⟩) (j - i) cap
 | v => v
theorem VH {sz : Nat} {b o n cap i j : Nat} (hc : Vb sz n cap) (xk : i ≤ j) (hj : j ≤ n) (lo hi : Bool) {vs : List Value} (hl : lo = false → i = 0) (hh : hi = false → j = n) {k1 k2 : IntKind} (hv : vs = (if lo then [.int k1 (i : Int)] else []) ++ (if hi then [.int k2 (j : Int)] else [])) (K : R (sW sz (eB b o n cap) i j) h) :
    WP (.slice sz lo hi false) (eB b o n cap :: vs) h R := by
  have key : ∀ k : KV, (iff (true && Nat.ble i j && Nat.ble j cap && (Nat.ble j n || !(Nat.ble aT cap)) && true && (bif Nat.ble aT cap then Nat.beq cap (Nat.add aT sz) else true)) (qp sz i j cap cap false b o fun v => k v h)) = k (sW sz (eB b o n cap) i j) h := fun k => by
    obtain ⟨hn, hc⟩ := hc
    rcases hc with ⟨h1, h2⟩ | h1
    · have e1 : Nat.ble aT cap = false := by
        cases hh : Nat.ble aT cap with
        | false => rfl
        | true => rw [Nat.ble_eq] at hh; omega
      have e2 : (true && Nat.ble i j && Nat.ble j cap && (Nat.ble j n || !(Nat.ble aT cap)) && true && (bif Nat.ble aT cap then Nat.beq cap (Nat.add aT sz) else true)) = true := by
        rw [e1]; simp only [Bool.and_eq_true, Nat.ble_eq, Bool.or_eq_true, Bool.not_false, cond_false]; exact ⟨⟨⟨⟨⟨trivial, xk⟩, by omega⟩, .inl hj⟩, trivial⟩, trivial⟩
      rw [e2, eA]
      unfold qp
      rw [bH, e1]
      show iff (Nat.ble (Nat.succ cap) aT) _ = _
      have e3 : Nat.ble (Nat.succ cap) aT = true := by rw [Nat.ble_eq]; exact h2
      rw [e3, eA]
      show _ = k (if cap < aT then (if cap = i then .slice (some ⟨b, o, none⟩) (j - i) 0 else .slice (some ⟨b, o + i * sz, none⟩) (j - i) (cap - i)) else .slice (some ⟨b, o + i * sz, none⟩) (j - i) cap) h
      rw [if_pos h2]
      by_cases jb : cap = i
      · rw [if_pos jb, jG jb]; rfl
      · rw [if_neg jb, ep jb]
        simp only [cond_false]
        rw [bH, bH]; rfl
    · subst h1
      have e1 : Nat.ble aT (aT + sz) = true := by rw [Nat.ble_eq]; omega
      have e4 : Nat.beq (aT + sz) (Nat.add aT sz) = true := by rw [Nat.beq_eq]; rfl
      have e2 : (true && Nat.ble i j && Nat.ble j (aT + sz) && (Nat.ble j n || !(Nat.ble aT (aT + sz))) && true && (bif Nat.ble aT (aT + sz) then Nat.beq (aT + sz) (Nat.add aT sz) else true)) = true := by
        rw [e1, e4]; simp only [Bool.and_eq_true, Nat.ble_eq, Bool.or_eq_true, Bool.not_true, cond_true]; exact ⟨⟨⟨⟨⟨trivial, xk⟩, by omega⟩, .inl hj⟩, trivial⟩, trivial⟩
      rw [e2, eA]
      unfold qp
      rw [bH, e1]
      simp only [Bool.not_false, Bool.and_true, cond_true]
      rw [bH]
      show _ = k (if aT + sz < aT then _ else .slice (some ⟨b, o + i * sz, none⟩) (j - i) (aT + sz)) h
      rw [if_neg (by omega)]; rfl
  subst hv
  cases lo <;> cases hi
  · have hl := hl rfl; have hh := hh rfl; subst hl; subst hh
    exact (cm (p := .slice sz false false false) (vs := [eB b o j cap]) (v := sW sz (eB b o j cap) 0 j) (h' := h) (h := h) key).2 K
  · have hl := hl rfl; subst hl
    exact (cm (p := .slice sz false true false) (vs := [eB b o n cap, .int k2 (j : Int)]) (v := sW sz (eB b o n cap) 0 j) (h' := h) (h := h) key).2 K
  · have hh := hh rfl; subst hh
    exact (cm (p := .slice sz true false false) (vs := [eB b o j cap, .int k1 (i : Int)]) (v := sW sz (eB b o j cap) i j) (h' := h) (h := h) key).2 K
  · exact (cm (p := .slice sz true true false) (vs := [eB b o n cap, .int k1 (i : Int), .int k2 (j : Int)]) (v := sW sz (eB b o n cap) i j) (h' := h) (h := h) key).2 K
theorem du.cut {ty : TypeId} {sz : Nat} {v : Value} {ls : List (List Value)} (H : du h ty sz v ls) {i j : Nat} (xk : i ≤ j) (hj : j ≤ ls.length) (lo hi : Bool) (hl : lo = false → i = 0) (hh : hi = false → j = ls.length) {k1 k2 : IntKind} {vs : List Value} (hv : vs = (if lo then [.int k1 (i : Int)] else []) ++ (if hi then [.int k2 (j : Int)] else [])) :
 ∃ v', du h ty sz v' ((ls.take j).drop i) ∧ dA v' = dA v ∧ ∀ (R : Value → AH → Prop), R v' h → WP (.slice sz lo hi false) (v :: vs) h R := by
 cases H with
 | nil =>
  have hj0 : j = 0 := by simpa using hj
  have hi0 : i = 0 := by omega
  subst hj0; subst hi0
  refine ⟨cP, .nil, rfl, fun R K => ?_⟩
  subst hv
  cases lo <;> cases hi <;> exact fun k hk => hk _ _ K
 | un b o n si cI cc ls hn uY hg h1 h2 hr hs =>
  subst hn
  refine ⟨sW sz (eB b o ls.length (aT + sz)) i j, ?_, ?_, fun R K => VH ⟨uY, .inr rfl⟩ xk hj lo hi hl hh hv K⟩
  · show du h ty sz (if aT + sz < aT then _ else .slice (some ⟨b, o + i * sz, none⟩) (j - i) (aT + sz)) _
    rw [if_neg (by omega)]
    have m1 : i * sz ≤ j * sz := Nat.mul_le_mul_right _ xk
    have m2 : j * sz ≤ ls.length * sz := Nat.mul_le_mul_right _ hj
    refine .un b _ _ si cI cc _ (by simp; omega) (by omega) hg (by omega) (by rw [Nat.sub_mul]; omega) ?_ (fun x hx => hs x (List.mem_of_mem_take (List.mem_of_mem_drop hx)))
    rw [MC i (fun x hx => hs x (List.mem_of_mem_take hx)), MD j hs]
    exact MG _ (ME _ hr)
  · show dA (if aT + sz < aT then _ else .slice (some ⟨b, o + i * sz, none⟩) (j - i) (aT + sz)) = _
    rw [if_neg (by omega)]; rfl
 | kn b o n cap si cI bI cc ls hn uY nT hg h1 h2 hr hs =>
  subst hn
  refine ⟨sW sz (eB b o ls.length cap) i j, ?_, ?_, fun R K => VH ⟨by omega, .inl ⟨uY, nT⟩⟩ xk hj lo hi hl hh hv K⟩
  · show du h ty sz (if cap < aT then (if cap = i then .slice (some ⟨b, o, none⟩) (j - i) 0 else .slice (some ⟨b, o + i * sz, none⟩) (j - i) (cap - i)) else .slice (some ⟨b, o + i * sz, none⟩) (j - i) cap) _
    rw [if_pos nT]
    have m1 : i * sz ≤ cap * sz := Nat.mul_le_mul_right _ (by omega)
    by_cases jb : cap = i
    · rw [if_pos jb]
      have : j = i := by omega
      subst this
      have e : (ls.take j).drop j = [] := List.drop_of_length_le (by rw [List.length_take]; omega)
      rw [e]
      exact .kn b o _ 0 si cI bI cc [] (by simp) (by omega) (by omega) hg h1 (by omega) (AH.KH _ _ _) (by simp)
    · rw [if_neg jb]
      refine .kn b _ _ _ si cI bI cc _ (by simp; omega) (by omega) (by omega) hg (by omega) (by rw [Nat.sub_mul]; omega) ?_ (fun x hx => hs x (List.mem_of_mem_take (List.mem_of_mem_drop hx)))
      rw [MC i (fun x hx => hs x (List.mem_of_mem_take hx)), MD j hs]
      exact MG _ (ME _ hr)
  · show dA (if cap < aT then (if cap = i then .slice (some ⟨b, o, none⟩) (j - i) 0 else .slice (some ⟨b, o + i * sz, none⟩) (j - i) (cap - i)) else .slice (some ⟨b, o + i * sz, none⟩) (j - i) cap) = _
    by_cases h5 : cap = i
    · rw [if_pos nT, if_pos h5]; rfl
    · rw [if_pos nT, if_neg h5]; rfl
end
end
end Go.Ve
namespace Go.Ve
open Go.RowKit
open Classical
noncomputable section
def One {α : Type} (rep : eY α) (n : Nat) : Prop := ∀ g vs x, rep g vs x → vs.length = n ∧ cB vs = true
theorem pB (k : IntKind) : One (rI k) 1 := fun _ vs x h => by cases h; exact ⟨rfl, rfl⟩
theorem aa {v : Value} {l : List Value} (h1 : dR v = true) (h2 : cB l = true) : cB (v :: l) = true := by rw [su, h1, h2]; rfl
theorem VI {α : Type} {rep : eY α} {sz : Nat} : One (rL rep sz) 1 := fun _ vs x ⟨v, h1, h2⟩ => by subst h1; exact ⟨rfl, aa h2.one rfl⟩
theorem nh {α : Type} {rep : eY α} {n : Nat} (H : One rep n) {g : AH} {ls : List (List Value)} {l : List α} (A : aw (rep g) ls l) : cB ls.flatten = true := by
 induction ls generalizing l with
 | nil => rfl
 | cons x ls ih =>
  cases l with
  | nil => have := A.1; simp at this
  | cons y l =>
   rw [List.flatten_cons]
   refine VG (H g x y (A.2 0 x y rfl rfl)).2 (ih (l := l) ⟨by simpa using A.1, fun i a b ha hb => A.2 (i + 1) a b (by simpa using ha) (by simpa using hb)⟩)
def bytesOf (l : List UInt8) : ByteArray := ⟨⟨l⟩⟩
theorem uZ {sz : Nat} : ∀ x ∈ ([] : List (List Value)), x.length = sz := fun x h => by simp at h
theorem u9 {sz : Nat} {y : List Value} {l : List (List Value)} (h1 : y.length = sz) (h2 : ∀ x ∈ l, x.length = sz) : ∀ x ∈ y :: l, x.length = sz := fun x h => by
 rcases List.mem_cons.1 h with rfl | h
 · exact h1
 · exact h2 x h
theorem cq {l m l2 r : List Value} {o n : Nat} {ps : List (Nat × Nat)} {v : Value} {vs : List Value} (h1 : cellsOf v = m) (h2 : m.length = n) (h3 : o + n ≤ l.length) (h4 : jP l o m = l2) (H : jQ l2 ps vs = some r) : jQ l ((o, n) :: ps) (v :: vs) = some r := by
 subst h1; subst h4
 unfold jQ
 rw [if_pos ⟨h2, h3⟩]; exact H
theorem Mq {k : IntKind} {n : Int} : qu (.int k n) (.int k n) = true := by
 show (bif eP k k then ke n n else false) = true
 rw [pc, zQ]; simp
theorem UP {b o : Nat} : qu (av b o) (av b o) = true := by
 show (Nat.beq b b && Nat.beq o o) = true
 rw [Nat.beq_refl, Nat.beq_refl]; rfl
theorem fX.Mr {g : AH} {sz : Nat} {v : Value} {ls : List (List Value)} (H : fX g sz v ls) : qu v v = true := by
 cases H with
 | nil => rfl
 | mk b o n cap ls hn hc hs hr =>
  show (Nat.beq b b && Nat.beq o o && Nat.beq n n && Nat.beq cap cap) = true
  rw [Nat.beq_refl, Nat.beq_refl, Nat.beq_refl, Nat.beq_refl]; rfl
theorem ae.Mr {α : Type} {rep : eY α} {sz : Nat} {g : AH} {v : Value} {l : List α} (F : ae rep sz g v l) : qu v v = true := by obtain ⟨ls, h, _⟩ := F; exact h.Mr
theorem Mo {c want : Bool} {A : W → W} {K : W} {h : AH} (e : c = want) (H : A K h) : gk (.bool c) want A K h := by
 subst e; unfold gk; cases c <;> exact H
theorem Mn {c want : Bool} {A : W → W} {K : W} {h : AH} (e : c ≠ want) (H : K h) : gk (.bool c) want A K h := by
 unfold gk; cases c <;> cases want <;> first | exact absurd rfl e | exact H
theorem lK {want : Bool} {A : (Value → W) → W} {K : Value → W} {h : AH} (H : K undef h) : gd undef want A K h := H
theorem vd {A B : W} {h : AH} (H : A h) : br (.bool true) A B h := H
theorem qQ {A B : W} {h : AH} (H : B h) : br (.bool false) A B h := H
section
variable {c : Cx} {g h g' h' : AH} {Γ : List Ob} {R : Value → AH → Prop}
theorem xm {α : Type} {len : Nat} (l : List α) (f : α → Value) (hl : l.length = len) {n : Int} {x : α} {kd : IntKind} (hx : ix l n = some x) (K : R (f x) h) : WP (.pL len) [.agg ⟨l.map f⟩, .int kd n] h R := by
 obtain ⟨i, rfl, hi, hx⟩ := FD hx
 exact (ac6 (by omega) (by rw [List.getElem?_map, hx]; rfl)).2 K
theorem Sep.ni {ty : TypeId} {sz : Nat} {v : Value} {ls : List (List Value)} (S : Sep c g h Γ) (k : Nat) (hk : Γ[k]? = some (.sl ty sz v ls)) : dR v = true := du.one (S.de _ (List.mem_of_getElem? hk))
theorem Sep.rd {ty : TypeId} {sz : Nat} {v : Value} {ls : List (List Value)} (S : Sep c g h Γ) (k : Nat) (hk : Γ[k]? = some (.sl ty sz v ls)) : fX h sz v ls := du.read (S.de _ (List.mem_of_getElem? hk))
theorem Sep.dz (S : Sep c g h Γ) (S' : Sep ⟨g, h, []⟩ g' h' []) : Sep c g h' Γ :=
 S.call ((Sep.start S.sub S.ok).back S' S'.bT)
theorem Sep.take (S : Sep c g h Γ) (n : Nat) : Sep c g h (Γ.take n) := by
 have ag : (Γ.take n).Sublist Γ := List.take_sublist n Γ
 have hf : ((Γ.take n).flatMap Ob.bg).Sublist (Γ.flatMap Ob.bg) := by
  have e : Γ.flatMap Ob.bg = (Γ.take n).flatMap Ob.bg ++ (Γ.drop n).flatMap Ob.bg := by rw [← List.flatMap_append, List.take_append_drop]
  rw [e]; exact List.sublist_append_left _ _
 exact ⟨S.bT, S.sub, S.ok, S.nx, S.old, fun x hx => S.de x (ag.subset hx), hf.nodup S.nd, fun b hb => S.own b (hf.subset hb)⟩
theorem dv {ss : List Nat} {vs : List Value} (l : List Value) (hs : cC ss vs = true) (e : vs.flatMap cellsOf = l) (K : R (.agg ⟨l⟩) h) : WP (.cX ss) vs h R := (Ez hs).2 (by rw [e]; exact K)
theorem Sep.cut {α : Type} {rep : eY α} {ty : TypeId} {sz : Nat} {v : Value} {ls : List (List Value)} {l : List α} {i j : Nat} {k1 k2 : IntKind} {vs : List Value} (S : Sep c g h (.sl ty sz v ls :: Γ)) (A : aw (rep g) ls l) (h1 : i ≤ j) (h2 : j ≤ l.length) (lo hi : Bool) (hl : lo = false → i = 0) (hh : hi = false → j = l.length)
 (hv : vs = (if lo then [.int k1 (i : Int)] else []) ++ (if hi then [.int k2 (j : Int)] else [])) (K : ∀ v' qR, Sep c g h (.sl ty sz v' qR :: Γ) → aw (rep g) qR ((l.take j).drop i) → R v' h) : WP (.slice sz lo hi false) (v :: vs) h R := by
 have H : du h ty sz v ls := S.de _ List.mem_cons_self
 obtain ⟨v', h5, h6, h7⟩ := H.cut (k1 := k1) (k2 := k2) h1 (by rw [A.1]; exact h2) lo hi hl (fun e => (hh e).trans A.1.symm) hv
 refine h7 R (K v' _ ?_ ((A.take j).drop i))
 refine S.change _ S.ok (Nat.le_refl _) (fun _ _ _ => rfl) h5 uW (fun b hb => ?_)
 have bG : b ∈ dA v := by have kQ : b ∈ dA v' := hb; rwa [h6] at kQ
 exact ⟨H.lt S.ok b bG, .inr bG⟩
theorem Sep.afQ {α : Type} {rep : eY α} {ty : TypeId} {sz : Nat} {v : Value} {ls : List (List Value)} {l m : List α} {b : Int} {k2 : IntKind} (S : Sep c g h (.sl ty sz v ls :: Γ)) (A : aw (rep g) ls l) (hx : AW l 0 b = some m) (K : ∀ v' qR, Sep c g h (.sl ty sz v' qR :: Γ) → aw (rep g) qR m → R v' h) : WP (.slice sz false true false) [v, .int k2 b] h R := by
 obtain ⟨i, j, e, rfl, h1, h2, rfl⟩ := afP hx
 exact S.cut (k1 := .i64) A h1 h2 false true (fun _ => by omega) (by simp) rfl K
end
end
end Go.Ve
namespace Go.Ve
open Go.RowKit
open Classical
noncomputable section
inductive Fl where
 | go
 | ret
 | ex (n : Nat)
def Fl.pd : Fl → Option Code
 | .go => none
 | .ret => some .ret
 | .ex n => some (.exit n)
def Fl.st : Fl → LoopState
 | .go => .ready
 | _ => .done
def Fl.on : Fl → Bool
 | .go => true
 | _ => false
def FH {ρ : Type} (f : Fl) (N Rt : Option ρ) (X : Nat → Option ρ) : Option ρ := match f with
 | .go => N
 | .ret => Rt
 | .ex n => X n
theorem VJ {ρ : Type} {N Rt : Option ρ} {X : Nat → Option ρ} {r : ρ} (h : FH .go N Rt X = some r) : N = some r := h
theorem VK {ρ : Type} {N Rt : Option ρ} {X : Nat → Option ρ} {r : ρ} (h : FH .ret N Rt X = some r) : Rt = some r := h
theorem MU {N Rt : W} {X : List (Nat × W)} {h : AH} (H : N h) : rh Fl.go.pd N Rt X h := H
theorem VL {N Rt : W} {X : List (Nat × W)} {h : AH} (H : Rt h) : rh Fl.ret.pd N Rt X h := H
def oh {α σ : Type} (b : σ → α → Option (σ × Fl)) : List α → σ → Option (σ × Fl)
 | [], s => some (s, .go)
 | x :: l, s => (b s x).bind fun q => match q.2 with
  | .go => oh b l q.1
  | f => some (q.1, f)
def sX {α : Type} (P : Program) (w0 : World) (g : AH) (fv : Value) (c : α → List Value) (l : List α) : Prop :=
 dR fv = true ∧ ∃ id first bw, fv = .func (.func id) ⟨first⟩ ⟨bw⟩ ∧ ∀ (yv : Value) (Inv : Nat → AH → AH → Prop) (Stop : AH → Prop) (Q : CR → AH → Prop) (g1 h : AH), Sub g g1 →
  (∀ i g h g' h', Inv i g h → Sep ⟨g, h, []⟩ g' h' [] → Inv i g' h') → (∀ i g h, Inv i g h → Sub g h ∧ h.Ok) →
  (∀ i x g h (E K : Value → W), l[i]? = some x → Inv i g h → (∀ g' h', Sub g g' → Inv (i + 1) g' h' → K (.bool true) h') → (∀ h', Stop h' → K (.bool false) h') → dy P w0 (yv :: c x) E K h) →
  Inv 0 g1 h → (∀ v g' h', Sub g1 g' → Inv l.length g' h' → Q (.ret v) h') → (∀ v h', Stop h' → Q (.ret v) h') → WF P w0 id (first ++ (yv :: bw)) h Q
theorem sX.mono {α : Type} {P : Program} {w0 : World} {g g' : AH} {fv : Value} {c : α → List Value} {l : List α} (H : sX P w0 g fv c l) (S : Sub g g') : sX P w0 g' fv c l := by
 obtain ⟨h0, id, first, bw, h1, h2⟩ := H
 exact ⟨h0, id, first, bw, h1, fun yv Inv Stop Q g1 h s => h2 yv Inv Stop Q g1 h (S.trans s)⟩
section
variable {c : Cx} {g h g' h' : AH} {Γ : List Ob} {R : Value → W}
theorem Sep.FI {n : Nat} {lo : LO} {st : LoopState} {pd : Option Code} (S : Sep c g h (.lp n lo st pd :: Γ)) (xn : LoopState) (sr : Option Code) : Sep c g (h.kW n (lo xn sr)) (.lp n lo xn sr :: Γ) := by
 have H : h.ob.get n = some (lo st pd) := S.de _ List.mem_cons_self
 have hn := AH.lt_of_get S.ok H
 refine S.change _ (AH.Es S.ok hn _) (Nat.le_refl _) (fun f _ hf => ?_) ?_ (by simp [Ob.bg]) (fun b hb => by simp [Ob.bg] at hb; subst hb; exact ⟨hn, .inr (by simp [Ob.bg])⟩)
 · rw [AH.qE, if_neg (by simpa [Ob.bg] using hf)]
 · show (h.kW n (lo xn sr)).ob.get n = _
   rw [AH.qE, if_pos rfl]
theorem Sep.pM {n : Nat} {lo : LO} {st : LoopState} {pd : Option Code} {K : W} (S : Sep c g h (.lp n lo st pd :: Γ)) (k : K h) : pM lo n K h := ⟨⟨st, pd, S.de _ List.mem_cons_self⟩, k⟩
theorem Sep.lS {n : Nat} {lo : LO} {pd : Option Code} {K : W} (S : Sep c g h (.lp n lo .ready pd :: Γ)) (k : ∀ h', Sep c g h' (.lp n lo .busy pd :: Γ) → K h') : lS lo n K h := ⟨pd, S.de _ List.mem_cons_self, k _ (S.FI _ _)⟩
theorem Sep.iT {n : Nat} {lo : LO} {st xn : LoopState} {pd sr : Option Code} {b : Bool} (S : Sep c g h (.lp n lo st pd :: Γ)) (k : ∀ h', Sep c g h' (.lp n lo xn sr :: Γ) → R (.bool b) h') : iT lo n xn sr b R h := ⟨⟨st, pd, S.de _ List.mem_cons_self⟩, k _ (S.FI _ _)⟩
theorem Sep.iS {K : W} : ∀ {d : List Nat} {h : AH}, Sep c g h (.ds d :: Γ) → (∀ h', Sep c g h' Γ → K h') → Go.Ve.iS d K h
 | [], h, S, k => k h S.drop
 | r :: d, h, S, k => by
  have H : ∀ x ∈ r :: d, h.ob.get x = some (.defs false) := S.de _ List.mem_cons_self
  have hr := H r List.mem_cons_self
  have hn := AH.lt_of_get S.ok hr
  have nd : (r :: d).Nodup := by have := S.nd; rw [List.flatMap_cons] at this; exact (List.nodup_append.1 this).1
  refine ⟨hr, Sep.iS (d := d) (S.change _ (AH.Es S.ok hn _) (Nat.le_refl _) (fun f _ hf => ?_) (fun x hx => ?_) (List.nodup_cons.1 nd).2 (fun b hb => ?_)) k⟩
  · rw [AH.qE, if_neg (fun e => hf (by subst e; exact List.mem_cons_self))]
  · rw [AH.qE, if_neg (fun e => by subst e; exact (List.nodup_cons.1 nd).1 hx)]; exact H x (List.mem_cons_of_mem _ hx)
  · have bG : b ∈ d := hb
    exact ⟨AH.lt_of_get S.ok (H b (List.mem_cons_of_mem _ bG)), .inr (List.mem_cons_of_mem _ bG)⟩
theorem Sep.MV (S : Sep c g h Γ) : Sep c g h (.ds [] :: Γ) := S.add _ S.ok (Nat.le_refl _) (fun _ _ => rfl) (fun r hr => by simp at hr) (by simp [Ob.bg]) (fun b hb => by simp [Ob.bg] at hb)
theorem MW {α σ : Type} {P : Program} {w0 : World} {fv : Value} {ca : α → List Value} {l : List α} {d : List Nat} {B : LO → Nat → List Value → (Value → W) → W} {E : Nat → Value → W} {K : Nat → Option Code → W} (bM : σ → α → Option (σ × Fl)) (D : σ → AH → AH → List Ob → Prop) {s0 : σ} {r : σ × Fl}
 (It : sX P w0 g fv ca l)
 (hD : ∀ s g h Γ g' h', D s g h Γ → Sub g g' → D s g' h' Γ)
 (S : Sep c g h (.ds d :: Γ)) (D0 : D s0 g h Γ) (M : oh bM l s0 = some r)
 (body : ∀ (lo : LO) (n q : Nat) (s : σ) (x : α) (s' : σ) (f : Fl) (R : Value → W) (g2 h2 : AH) (Γ2 : List Ob), Sub g g2 → Sep c g2 h2 (.lp n lo .ready none :: .ds (q :: d) :: Γ2) → D s g2 h2 Γ2 → bM s x = some (s', f) →
  (∀ g3 h3 Γ3, Sub g2 g3 → Sep c g3 h3 (.lp n lo f.st f.pd :: .ds (q :: d) :: Γ3) → D s' g3 h3 Γ3 → R (.bool f.on) h3) → B lo n (ca x) R h2)
 (fin : ∀ (q : Nat) (g2 h2 : AH) (Γ2 : List Ob), Sub g g2 → Sep c g2 h2 (.ds (q :: d) :: Γ2) → D r.1 g2 h2 Γ2 → K q r.2.pd h2) : vE P w0 fv B E K h := by
 obtain ⟨_, id, first, bw, rfl, It⟩ := It
 show Lb P w0 id first bw B (E h.nx) (K h.nx) (h.dH (.defs false))
 intro lo hB
 have S1 : Sep c g (h.dH (.defs false)) (.ds (h.nx :: d) :: Γ) := by
  have H : ∀ x ∈ d, h.ob.get x = some (.defs false) := S.de _ List.mem_cons_self
  have nd : d.Nodup := by have := S.nd; rw [List.flatMap_cons] at this; exact (List.nodup_append.1 this).1
  refine S.change _ (AH.wN S.ok _) (Nat.le_succ _) (fun f hf _ => (cJ.dH h _).get f hf) (fun x hx => ?_) ?_ (fun b hb => ?_)
  · rcases List.mem_cons.1 hx with rfl | hx
    · rw [AH.pg, if_pos rfl]
    · have := AH.lt_of_get S.ok (H x hx)
      rw [AH.pg, if_neg (by omega)]; exact H x hx
  · exact List.nodup_cons.2 ⟨fun hm => by have := AH.lt_of_get S.ok (H _ hm); omega, nd⟩
  · rcases List.mem_cons.1 hb with rfl | hb
    · exact ⟨Nat.lt_succ_self _, .inl (Nat.le_refl _)⟩
    · exact ⟨Nat.lt_succ_of_lt (AH.lt_of_get S.ok (H b hb)), .inr hb⟩
 have S2 : Sep c g ((h.dH (.defs false)).dH (lo .ready none)) (.lp (h.dH (.defs false)).nx lo .ready none :: .ds (h.nx :: d) :: Γ) := by
  refine S1.add _ (AH.wN S1.ok _) (Nat.le_succ _) (cJ.dH _ _).get ?_ (by simp [Ob.bg]) (fun b hb => by simp [Ob.bg] at hb; subst hb; exact ⟨Nat.lt_succ_self _, Nat.le_refl _⟩)
  show ((h.dH (.defs false)).dH (lo .ready none)).ob.get _ = _
  rw [AH.pg, if_pos rfl]
 have D2 : D s0 g ((h.dH (.defs false)).dH (lo .ready none)) Γ := hD s0 g h Γ g _ D0 (.refl g)
 generalize hn : (h.dH (.defs false)).nx = n at *
 generalize (h.dH (.defs false)).dH (lo .ready none) = h2 at *
 refine It _ (fun i g2 hh => ∃ s Γ2, Sub g g2 ∧ Sep c g2 hh (.lp n lo .ready none :: .ds (h.nx :: d) :: Γ2) ∧ D s g2 hh Γ2 ∧ oh bM (l.drop i) s = some r)
  (fun hh => ∃ g2 Γ2, Sub g g2 ∧ Sep c g2 hh (.lp n lo r.2.st r.2.pd :: .ds (h.nx :: d) :: Γ2) ∧ D r.1 g2 hh Γ2) _ g h2 (.refl g) ?_ ?_ ?_ ⟨s0, Γ, .refl _, S2, D2, by rw [List.drop_zero]; exact M⟩ ?_ ?_
 · rintro i g2 ha g3 hb ⟨s, Γ2, h1, h3, h4, h5⟩ S'
   exact ⟨s, Γ2, h1.trans S'.bT, h3.call S', hD s g2 ha Γ2 g3 hb h4 S'.bT, h5⟩
 · rintro i g2 ha ⟨s, Γ2, h1, h3, h4, h5⟩
   exact ⟨h3.sub, h3.ok⟩
 · rintro i x g2 ha E K' hx ⟨s, Γ2, h1, h3, h4, h5⟩ kt kf
   have hi : i < l.length := (List.getElem?_eq_some_iff.1 hx).1
   have hd : l.drop i = x :: l.drop (i + 1) := by
    rw [List.drop_eq_getElem_cons hi]; congr 1; rw [List.getElem?_eq_getElem hi] at hx; exact Option.some.inj hx
   rw [hd] at h5
   unfold oh at h5
   obtain ⟨⟨s', f⟩, h6, h7⟩ := bind_some h5
   refine WR.mono (fun rr hh hr => ?_) (hB n (ca x) K' ha (body lo n h.nx s x s' f K' g2 ha Γ2 h1 h3 h4 h6 fun g3 yG Γ3 a1 a2 a3 => ?_))
   · cases rr with
     | ret v => exact hr
     | az v => exact hr.elim
   · cases f with
     | go => exact kt g3 _ a1 ⟨s', Γ3, h1.trans a1, a2, a3, h7⟩
     | ret => cases h7; exact kf _ ⟨g3, Γ3, h1.trans a1, a2, a3⟩
     | ex m => cases h7; exact kf _ ⟨g3, Γ3, h1.trans a1, a2, a3⟩
 · rintro v g2 hh sg ⟨s, Γ2, h1, h3, h4, h5⟩
   rw [List.drop_length] at h5
   cases h5
   refine ⟨.ready, none, h3.de _ List.mem_cons_self, rfl, ?_⟩
   exact fin h.nx g2 _ Γ2 h1 (h3.FI .exhausted none).drop (hD _ g2 hh Γ2 g2 _ h4 (.refl _))
 · rintro v hh ⟨g2, Γ2, h1, h3, h4⟩
   refine ⟨r.2.st, r.2.pd, h3.de _ List.mem_cons_self, by cases r.2 <;> rfl, ?_⟩
   exact fin h.nx g2 _ Γ2 h1 (h3.FI .exhausted r.2.pd).drop (hD _ g2 hh Γ2 g2 _ h4 (.refl _))
end
end
end Go.Ve
namespace Go.Ve
open Go.RowKit
section
variable {c : Cx} {g h g' h' : AH} {Γ : List Ob} {o : Ob}
theorem Sep.f1 {a0 a1 : Ob} (S : Sep c g h (a0 :: a1 :: Γ)) : Sep c g h (a1 :: a0 :: Γ) := S.front 1 rfl rfl
theorem Sep.f2 {a0 a1 a2 : Ob} (S : Sep c g h (a0 :: a1 :: a2 :: Γ)) : Sep c g h (a2 :: a0 :: a1 :: Γ) := S.front 2 rfl rfl
theorem Sep.f3 {a0 a1 a2 a3 : Ob} (S : Sep c g h (a0 :: a1 :: a2 :: a3 :: Γ)) : Sep c g h (a3 :: a0 :: a1 :: a2 :: Γ) := S.front 3 rfl rfl
theorem Sep.f4 {a0 a1 a2 a3 a4 : Ob} (S : Sep c g h (a0 :: a1 :: a2 :: a3 :: a4 :: Γ)) : Sep c g h (a4 :: a0 :: a1 :: a2 :: a3 :: Γ) := S.front 4 rfl rfl
theorem Sep.f5 {a0 a1 a2 a3 a4 a5 : Ob} (S : Sep c g h (a0 :: a1 :: a2 :: a3 :: a4 :: a5 :: Γ)) : Sep c g h (a5 :: a0 :: a1 :: a2 :: a3 :: a4 :: Γ) := S.front 5 rfl rfl
theorem Sep.f6 {a0 a1 a2 a3 a4 a5 a6 : Ob} (S : Sep c g h (a0 :: a1 :: a2 :: a3 :: a4 :: a5 :: a6 :: Γ)) : Sep c g h (a6 :: a0 :: a1 :: a2 :: a3 :: a4 :: a5 :: Γ) := S.front 6 rfl rfl
theorem Sep.f7 {a0 a1 a2 a3 a4 a5 a6 a7 : Ob} (S : Sep c g h (a0 :: a1 :: a2 :: a3 :: a4 :: a5 :: a6 :: a7 :: Γ)) : Sep c g h (a7 :: a0 :: a1 :: a2 :: a3 :: a4 :: a5 :: a6 :: Γ) := S.front 7 rfl rfl
theorem Sep.f8 {a0 a1 a2 a3 a4 a5 a6 a7 a8 : Ob} (S : Sep c g h (a0 :: a1 :: a2 :: a3 :: a4 :: a5 :: a6 :: a7 :: a8 :: Γ)) : Sep c g h (a8 :: a0 :: a1 :: a2 :: a3 :: a4 :: a5 :: a6 :: a7 :: Γ) := S.front 8 rfl rfl
theorem Sep.f9 {a0 a1 a2 a3 a4 a5 a6 a7 a8 a9 : Ob} (S : Sep c g h (a0 :: a1 :: a2 :: a3 :: a4 :: a5 :: a6 :: a7 :: a8 :: a9 :: Γ)) : Sep c g h (a9 :: a0 :: a1 :: a2 :: a3 :: a4 :: a5 :: a6 :: a7 :: a8 :: Γ) := S.front 9 rfl rfl
theorem Sep.f10 {a0 a1 a2 a3 a4 a5 a6 a7 a8 a9 Vh : Ob} (S : Sep c g h (a0 :: a1 :: a2 :: a3 :: a4 :: a5 :: a6 :: a7 :: a8 :: a9 :: Vh :: Γ)) : Sep c g h (Vh :: a0 :: a1 :: a2 :: a3 :: a4 :: a5 :: a6 :: a7 :: a8 :: a9 :: Γ) := S.front 10 rfl rfl
theorem Sep.t0 (S : Sep c g h Γ) : Sep c g h [] := S.bA
theorem Sep.t1 {a0 : Ob} (S : Sep c g h (a0 :: Γ)) : Sep c g h [a0] := S.take 1
theorem Sep.t2 {a0 a1 : Ob} (S : Sep c g h (a0 :: a1 :: Γ)) : Sep c g h [a0, a1] := S.take 2
theorem Sep.t3 {a0 a1 a2 : Ob} (S : Sep c g h (a0 :: a1 :: a2 :: Γ)) : Sep c g h [a0, a1, a2] := S.take 3
theorem Sep.t4 {a0 a1 a2 a3 : Ob} (S : Sep c g h (a0 :: a1 :: a2 :: a3 :: Γ)) : Sep c g h [a0, a1, a2, a3] := S.take 4
theorem Sep.t5 {a0 a1 a2 a3 a4 : Ob} (S : Sep c g h (a0 :: a1 :: a2 :: a3 :: a4 :: Γ)) : Sep c g h [a0, a1, a2, a3, a4] := S.take 5
theorem Sep.t8 {a0 a1 a2 a3 a4 a5 a6 a7 : Ob} (S : Sep c g h (a0 :: a1 :: a2 :: a3 :: a4 :: a5 :: a6 :: a7 :: Γ)) : Sep c g h [a0, a1, a2, a3, a4, a5, a6, a7] := S.take 8
theorem Sep.t10 {a0 a1 a2 a3 a4 a5 a6 a7 a8 a9 : Ob} (S : Sep c g h (a0 :: a1 :: a2 :: a3 :: a4 :: a5 :: a6 :: a7 :: a8 :: a9 :: Γ)) : Sep c g h [a0, a1, a2, a3, a4, a5, a6, a7, a8, a9] := S.take 10
theorem Sep.na (S : Sep c g h Γ) (S1 : Sep ⟨g, h, []⟩ g' h' []) : Sep c g' h' Γ := S.call S1
end
end Go.Ve
namespace Go.Ve
open Go.RowKit
open Classical
noncomputable section
def dT (l : List Int) : Prop := l.Pairwise (· < ·)
def gU (x : Int) : List Int → List Int
 | [] => [x]
 | y :: l => bif decide (x < y) then x :: y :: l else bif decide (x = y) then y :: l else y :: gU x l
theorem uT {x z : Int} : ∀ {l : List Int}, z ∈ gU x l ↔ z = x ∨ z ∈ l
 | [] => by simp [gU]
 | y :: l => by
  unfold gU
  by_cases h1 : x < y
  · rw [decide_eq_true h1]; simp
  · rw [decide_eq_false h1]
    by_cases h2 : x = y
    · rw [decide_eq_true h2]; subst h2; simp
    · rw [decide_eq_false h2]
      show z ∈ y :: gU x l ↔ _
      rw [List.mem_cons, uT, List.mem_cons]
      constructor
      · rintro (h | h | h) <;> simp [h]
      · rintro (h | h | h) <;> simp [h]
theorem AV {x : Int} : ∀ {l : List Int}, dT l → dT (gU x l)
 | [], _ => by simp [gU, dT]
 | y :: l, h => by
  have h' := List.pairwise_cons.1 h
  unfold gU
  by_cases h1 : x < y
  · rw [decide_eq_true h1]
    exact List.pairwise_cons.2 ⟨fun z hz => by
     rcases List.mem_cons.1 hz with rfl | hz
     · exact h1
     · exact Int.lt_trans h1 (h'.1 z hz), h⟩
  · rw [decide_eq_false h1]
    by_cases h2 : x = y
    · rw [decide_eq_true h2]; exact h
    · rw [decide_eq_false h2]
      exact List.pairwise_cons.2 ⟨fun z hz => by
       rcases uT.1 hz with rfl | hz
       · omega
       · exact h'.1 z hz, AV h'.2⟩
theorem dT.nd {l : List Int} (h : dT l) : l.Nodup := h.imp fun h => by omega
theorem dT.ext : ∀ {l m : List Int}, dT l → dT m → (∀ x, x ∈ l ↔ x ∈ m) → l = m
 | [], [], _, _, _ => rfl
 | [], y :: m, _, _, h => absurd ((h y).2 List.mem_cons_self) (by simp)
 | x :: l, [], _, _, h => absurd ((h x).1 List.mem_cons_self) (by simp)
 | x :: l, y :: m, hl, hm, h => by
  have fh := List.pairwise_cons.1 hl
  have mH := List.pairwise_cons.1 hm
  have e : x = y := by
   rcases List.mem_cons.1 ((h x).1 List.mem_cons_self) with e | hx
   · exact e
   · rcases List.mem_cons.1 ((h y).2 List.mem_cons_self) with e | hy
     · exact e.symm
     · have := mH.1 x hx; have := fh.1 y hy; omega
  subst e
  refine congrArg (x :: ·) (dT.ext fh.2 mH.2 fun z => ⟨fun hz => ?_, fun hz => ?_⟩)
  · rcases List.mem_cons.1 ((h z).1 (List.mem_cons_of_mem _ hz)) with rfl | ln
    · have := fh.1 z hz; omega
    · exact ln
  · rcases List.mem_cons.1 ((h z).2 (List.mem_cons_of_mem _ hz)) with rfl | ln
    · have := mH.1 z hz; omega
    · exact ln
theorem afA {x : Int} {l : List Int} (h : dT l) (hx : x ∈ l) : gU x l = l := dT.ext (AV h) h fun z => by
 rw [uT]; exact ⟨fun hz => hz.elim (fun e => e ▸ hx) id, .inr⟩
theorem afB {l m : List Int} (hl : l.Nodup) (hm : m.Nodup) (h : ∀ x, x ∈ l ↔ x ∈ m) : l.Perm m := (List.perm_ext_iff_of_nodup hl hm).2 h
theorem afC {x : Int} {l : List Int} (h : dT l) (hx : x ∉ l) : (gU x l).Perm (x :: l) := afB (AV h).nd (List.nodup_cons.2 ⟨hx, h.nd⟩) fun z => by rw [uT, List.mem_cons]
def eI (xs l : List Int) : List Int := xs.foldl (fun l x => gU x l) l
theorem xg {z : Int} : ∀ {xs l : List Int}, z ∈ eI xs l ↔ z ∈ xs ∨ z ∈ l
 | [], l => by simp [eI]
 | x :: xs, l => by
  show z ∈ eI xs (gU x l) ↔ _
  rw [xg, uT, List.mem_cons]
  constructor
  · rintro (h | h | h) <;> simp [h]
  · rintro ((h | h) | h) <;> simp [h]
theorem xh : ∀ {xs l : List Int}, dT l → dT (eI xs l)
 | [], _, h => h
 | _ :: xs, _, h => xh (xs := xs) (AV h)
theorem afD {xs ys l : List Int} (h : dT l) (p : ∀ x, x ∈ xs ↔ x ∈ ys) : eI xs l = eI ys l := dT.ext (xh h) (xh h) fun z => by rw [xg, xg, p]
structure cU (es : List (Value × Value × Nat)) (cl : Nat) (l : List Int) : Prop where
 ks : ∃ ks : List Int, ks.Perm l ∧ es.map (fun e => (e.1, e.2.1)) = ks.map fun k => (vi k, Value.bool true)
 kZ : dT l
 st : (es.map fun e => e.2.2).Nodup
 lt : ∀ e ∈ es, e.2.2 < cl
theorem cU.nil : cU [] 0 [] := ⟨⟨[], .refl _, rfl⟩, .nil, .nil, fun e h => by simp at h⟩
theorem cU.len {es : List (Value × Value × Nat)} {cl : Nat} {l : List Int} (H : cU es cl l) : es.length = l.length := by
 obtain ⟨ks, h1, h2⟩ := H.ks
 rw [← h1.length_eq]
 simpa using congrArg List.length h2
theorem Vi (x y : Int) : j5 0 (vi x) (vi y) = some (decide (x = y)) := by
 rw [← zQ]; rfl
theorem Vj {x : Int} : ∀ {es : List (Value × Value × Nat)} {ks : List Int} {cl : Nat}, es.map (fun e => (e.1, e.2.1)) = ks.map (fun k => (vi k, Value.bool true)) →
 (x ∈ ks → ∀ k, mD 0 es (vi x) (.bool true) cl k = k es cl) ∧ (x ∉ ks → ∀ k, mD 0 es (vi x) (.bool true) cl k = k (es ++ [(vi x, .bool true, cl)]) (cl + 1))
 | [], [], cl, _ => ⟨fun h => by simp at h, fun _ k => by show fN (Nat.succ cl) _ = _; rw [bH]; rfl⟩
 | [], _ :: _, _, h => by simp at h
 | _ :: _, [], _, h => by simp at h
 | (a, v, n) :: es, b :: ks, cl, h => by
  simp only [List.map_cons, List.cons.injEq, Prod.mk.injEq] at h
  obtain ⟨⟨rfl, rfl⟩, ht⟩ := h
  have he : ∀ k, mD 0 ((vi b, .bool true, n) :: es) (vi x) (.bool true) cl k = bif decide (x = b) then k ((vi x, .bool true, n) :: es) cl else mD 0 es (vi x) (.bool true) cl (fun bV ie => k ((vi b, .bool true, n) :: bV) ie) := fun k => by
   show (match j5 0 (vi x) (vi b) with | some true => k ((vi x, .bool true, n) :: es) cl | some false => mD 0 es (vi x) (.bool true) cl (fun bV ie => k ((vi b, .bool true, n) :: bV) ie) | none => false) = _
   rw [Vi]
   cases decide (x = b) <;> rfl
  obtain ⟨h1, h2⟩ := Vj (x := x) (cl := cl) ht
  by_cases hx : x = b
  · subst hx
    refine ⟨fun _ k => by rw [he, decide_eq_true rfl]; rfl, fun hn => absurd List.mem_cons_self hn⟩
  · refine ⟨fun hm k => ?_, fun hn k => ?_⟩
    · rw [he, decide_eq_false hx]; exact h1 ((List.mem_cons.1 hm).resolve_left hx) _
    · rw [he, decide_eq_false hx]; exact h2 (fun h => hn (List.mem_cons_of_mem _ h)) _
theorem cU.hZ {es : List (Value × Value × Nat)} {cl : Nat} {l : List Int} (H : cU es cl l) (x : Int) : ∃ bV ie, cU bV ie (gU x l) ∧ ∀ k, mD 0 es (vi x) (.bool true) cl k = k bV ie := by
 obtain ⟨ks, h1, h2⟩ := H.ks
 obtain ⟨u1, u2⟩ := Vj (x := x) (cl := cl) h2
 by_cases hx : x ∈ ks
 · refine ⟨es, cl, ?_, u1 hx⟩
   rw [afA H.kZ (h1.mem_iff.1 hx)]
   exact H
 · refine ⟨_, _, ⟨⟨ks ++ [x], ?_, by simp [h2]⟩, AV H.kZ, ?_, fun e he => ?_⟩, u2 hx⟩
   · exact (List.perm_append_comm.trans (List.Perm.cons x h1)).trans (afC H.kZ fun h => hx (h1.mem_iff.2 h)).symm
   · rw [List.map_append]
     refine List.nodup_append.2 ⟨H.st, by simp, fun a ha b hb => ?_⟩
     obtain ⟨e, he, rfl⟩ := List.mem_map.1 ha
     simp at hb
     have := H.lt e he
     omega
   · rcases List.mem_append.1 he with he | he
     · have := H.lt e he; omega
     · simp at he; subst he; exact Nat.lt_succ_self _
theorem Vk {α : Type} {x : Int} {k : Option Value → Bool} : ∀ {es : List (Value × Value × Nat)} {ks : List Int}, es.map (fun e => (e.1, e.2.1)) = ks.map (fun k => (vi k, Value.bool true)) →
 l4 0 es (vi x) k = k (bif decide (x ∈ ks) then some (.bool true) else none)
 | [], [], _ => by simp [l4]
 | [], _ :: _, h => by simp at h
 | _ :: _, [], h => by simp at h
 | (a, v, n) :: es, b :: ks, h => by
  simp only [List.map_cons, List.cons.injEq, Prod.mk.injEq] at h
  obtain ⟨⟨rfl, rfl⟩, ht⟩ := h
  have he : l4 0 ((vi b, .bool true, n) :: es) (vi x) k = bif decide (x = b) then k (some (.bool true)) else l4 0 es (vi x) k := by
   show (match j5 0 (vi x) (vi b) with | some true => k (some (.bool true)) | some false => l4 0 es (vi x) k | none => false) = _
   rw [Vi]
   cases decide (x = b) <;> rfl
  rw [he, Vk (α := α) ht]
  by_cases hx : x = b
  · subst hx; simp
  · rw [decide_eq_false hx]
    simp [hx]
def gM (g : AH) (v : Value) (l : List Int) : Prop := (v = .map none ∧ l = []) ∨ ∃ b es cl, v = .map (some b) ∧ g.ob.get b = some (.map es cl) ∧ cU es cl l
theorem gM.nil {g : AH} : gM g (.map none) [] := .inl ⟨rfl, rfl⟩
theorem gM.mono {g g' : AH} {v : Value} {l : List Int} (H : gM g v l) (S : Sub g g') : gM g' v l := by
 rcases H with h | ⟨b, es, cl, h1, h2, h3⟩
 · exact .inl h
 · exact .inr ⟨b, es, cl, h1, S.get _ _ h2, h3⟩
theorem gM.one {g : AH} {v : Value} {l : List Int} (H : gM g v l) : dR v = true := by
 rcases H with ⟨rfl, _⟩ | ⟨b, es, cl, rfl, _⟩ <;> rfl
theorem gM.kZ {g : AH} {v : Value} {l : List Int} (H : gM g v l) : dT l := by
 rcases H with ⟨_, rfl⟩ | ⟨b, es, cl, _, _, h⟩
 · exact .nil
 · exact h.kZ
def fY : eY (List Int) := fun g vs x => ∃ v, vs = [v] ∧ gM g v x
theorem qO : od fY := fun _ _ _ _ S ⟨v, h1, h2⟩ => ⟨v, h1, h2.mono S⟩
section
variable {c : Cx} {g h : AH} {Γ : List Ob} {R : Value → AH → Prop} {b cl : Nat} {es : List (Value × Value × Nat)} {l : List Int}
theorem xi {r : Nat} (hr : h.ob.get r = some (.map es cl)) (k : List (Value × Value × Nat) → Nat → Bool) : iF h r k = k es cl := by
 unfold iF; rw [sh hr]
theorem MJ {it : Nat} {m : Option Nat} {since last : Nat} {seen : List Nat} (hi : h.ob.get it = some (.ei m since seen last)) (k : Option Nat → Nat → List Nat → Nat → Bool) : rR h it k = k m since seen last := by
 unfold rR; rw [sh hi]
theorem Sep.U6 (S : Sep c g h Γ) (K : ∀ b h', Sep c g h' (.mp b [] 0 :: Γ) → cU [] 0 [] → R (.map (some b)) h') : WP .mkMap [] h R :=
 adx.2 (K _ _ (S.add _ (AH.wN S.ok _) (Nat.le_succ _) (cJ.dH h _).get (by show (h.dH _).ob.get h.nx = _; rw [AH.pg, if_pos rfl]) (by simp [Ob.bg]) (fun b hb => by simp [Ob.bg] at hb; subst hb; exact ⟨Nat.lt_succ_self _, Nat.le_refl _⟩)) cU.nil)
theorem Sep.My {x : Int} (S : Sep c g h (.mp b es cl :: Γ)) (A : cU es cl l) (K : ∀ bV ie h', Sep c g h' (.mp b bV ie :: Γ) → cU bV ie (gU x l) → R undef h') : WP (.nB 0) [.map (some b), vi x, .bool true] h R := by
 have hb : h.ob.get b = some (.map es cl) := S.de _ List.mem_cons_self
 have hn := AH.lt_of_get S.ok hb
 obtain ⟨bV, ie, h1, h2⟩ := A.hZ x
 have key : ∀ k : KV, (Prim.nB 0).ev [.map (some b), vi x, .bool true] h k = k undef (h.kW b (.map bV ie)) := fun k => by
  show iff (vU 0 (vi x)) (iF h b fun es cl => mD 0 es (vi x) (.bool true) cl fun es cl => ff h b (some (.map es cl)) fun h => k undef h) = _
  rw [xi hb, h2, wO]; rfl
 refine (cm key).2 (K bV ie _ ?_ h1)
 refine S.change _ (AH.Es S.ok hn _) (Nat.le_refl _) (fun f _ hf => ?_) ?_ (by simp [Ob.bg]) (fun b' bG => by simp [Ob.bg] at bG; subst bG; exact ⟨hn, .inr (by simp [Ob.bg])⟩)
 · rw [AH.qE, if_neg (by simpa [Ob.bg] using hf)]
 · show (h.kW b (.map bV ie)).ob.get b = _
   rw [AH.qE, if_pos rfl]
theorem afE (hb : h.ob.get b = some (.map es cl)) (A : cU es cl l) (K : R (vi (l.length : Int)) h) : WP .vG [.map (some b)] h R := by
 have key : ∀ k : KV, Prim.vG.ev [.map (some b)] h k = k (vi (l.length : Int)) h := fun k => by
  show iF h b (fun es _ => fN es.length fun n => k (.int .i64 (.ofNat n)) h) = _
  rw [xi hb, bH, A.len]; rfl
 exact (cm key).2 K
theorem Sep.Vl {v : Value} (S : Sep c g h Γ) (M : gM g v l) (K : R (vi (l.length : Int)) h) : WP .vG [v] h R := by
 rcases M with ⟨rfl, rfl⟩ | ⟨b, es, cl, rfl, h2, h3⟩
 · exact (cm (R := R) (h := h) (h' := h) (v := vi 0) fun k => by rfl).2 K
 · exact afE (S.sub.get _ _ h2) h3 K
theorem Sep.aeP {x : Int} (S : Sep c g h Γ) (k : Nat) (hk : Γ[k]? = some (.mp b es cl)) (A : cU es cl l) (K : R (.bool (decide (x ∈ l))) h) : WP (.lookup 0 (.bool false) false) [.map (some b), vi x] h R := by
 have hb : h.ob.get b = some (.map es cl) := S.de _ (List.mem_of_getElem? hk)
 obtain ⟨ks, h1, h2⟩ := A.ks
 have key : ∀ k : KV, (Prim.lookup 0 (.bool false) false).ev [.map (some b), vi x] h k = k (.bool (decide (x ∈ l))) h := fun k => by
  show iff (vU 0 (vi x)) (iF h b fun es _ => l4 0 es (vi x) (yw (.bool false) false h k)) = _
  rw [xi hb, Vk (α := Unit) h2]
  have : decide (x ∈ ks) = decide (x ∈ l) := decide_eq_decide.2 h1.mem_iff
  rw [this]
  cases decide (x ∈ l) <;> rfl
 exact (cm key).2 K
theorem Sep.afF (S : Sep c g h (.mp b es cl :: Γ)) (A : cU es cl l) : ∃ g', Sub g g' ∧ Sep c g' h Γ ∧ gM g' (.map (some b)) l := by
 obtain ⟨h1, h2, h3⟩ := S.freeze (b := b) rfl
 exact ⟨_, h1, h2, .inr ⟨b, es, cl, rfl, h3.trans (S.de _ List.mem_cons_self), A⟩⟩
end
section
variable {c : Cx} {g h : AH} {Γ : List Ob}
theorem Sep.afG {α : Type} {rep : eY α} {ty : TypeId} {sz : Nat} {v : Value} {ls : List (List Value)} {l : List α} (S : Sep c g h (.sl ty sz v ls :: Γ)) (A : aw (rep g) ls l) (hm : od rep) :
    ∃ g', Sub g g' ∧ Sub g' h ∧ ae rep sz g' v l ∧ ∀ g2 h2, Sep ⟨g', h, []⟩ g2 h2 [] → Sep c g h2 (.sl ty sz v ls :: Γ) := by
  have O : du h ty sz v ls := S.de _ List.mem_cons_self
  obtain ⟨g', sg, S1, afH, F⟩ : ∃ g', Sub g g' ∧ Sep c g' h Γ ∧ (∀ b ∈ dA v, ∃ x, g'.ob.get b = some x ∧ h.ob.get b = some x) ∧ ae rep sz g' v l := by
    cases O with
    | nil => exact ⟨g, .refl g, S.drop, fun b hb => by simp [dA] at hb, ⟨[], .nil, A⟩⟩
    | un b o n lo hi cc _ hn hb hg h1 h2 hr hs =>
      obtain ⟨k1, k2, k3⟩ := S.freeze (b := b) rfl
      exact ⟨_, k1, k2, fun b' bG => by
        have bG : b' = b := by simpa [dA] using bG
        subst bG
        exact ⟨_, k3.trans hg, hg⟩, ⟨ls, .mk b o n _ ls hn ⟨hb, .inr rfl⟩ hs (qN k3 hr), A.mono fun x y hh => hm _ _ _ _ k1 hh⟩⟩
    | kn b o n cap lo hi bI cc _ hn hb hc hg h1 h2 hr hs =>
      obtain ⟨k1, k2, k3⟩ := S.freeze (b := b) rfl
      exact ⟨_, k1, k2, fun b' bG => by
        have bG : b' = b := by simpa [dA] using bG
        subst bG
        exact ⟨_, k3.trans hg, hg⟩, ⟨ls, .mk b o n cap ls hn ⟨by omega, .inl ⟨hb, hc⟩⟩ hs (qN k3 hr), A.mono fun x y hh => hm _ _ _ _ k1 hh⟩⟩
  refine ⟨g', sg, S1.sub, F, fun g2 h2 S2 => ?_⟩
  have S3 := S1.dz S2
  refine ⟨S.bT, sg.trans S3.sub, S3.ok, S3.nx, fun f h1 h2 => ⟨(S3.old f h1 h2).1, (S.old f h1 h2).2⟩, fun o ho => ?_, S.nd, fun b hb => ⟨Nat.lt_of_lt_of_le (S.own b hb).1 S2.nx, (S.own b hb).2⟩⟩
  rcases List.mem_cons.1 ho with rfl | ho
  · exact du.xf O fun b hb => by
      obtain ⟨x, h1, h2⟩ := afH b hb
      rw [h2]; exact S3.sub.get _ _ h1
  · exact S3.de o ho
theorem Sep.afI {α : Type} {rep : eY α} {ty : TypeId} {sz : Nat} {v : Value} {ls : List (List Value)} {l : List α} (S : Sep c g h (.sl ty sz v ls :: Γ)) (A : aw (rep g) ls l) (hm : od rep) :
    ∃ g', Sub g g' ∧ Sub g' h ∧ ae rep sz g' v l ∧ ∀ g2 h2, Sep ⟨g', h, []⟩ g2 h2 [] → ∃ g3, Sub g g3 ∧ Sep c g3 h2 (.sl ty sz v ls :: Γ) ∧ ∀ w s, gM g2 w s → gM g3 w s := by
  have O : du h ty sz v ls := S.de _ List.mem_cons_self
  have key : ∀ {b lo hi : Nat} {bI : TypeId} {cc : NT Value} (g' : AH), dA v = [b] → h.ob.get b = some (.cells lo hi bI true cc) → Sub g g' → Sep c g' h Γ → g'.ob.get b = h.ob.get b →
      ∀ g2 h2, Sep ⟨g', h, []⟩ g2 h2 [] → ∃ g3, Sub g g3 ∧ Sep c g3 h2 (.sl ty sz v ls :: Γ) ∧ ∀ w s, gM g2 w s → gM g3 w s := fun {b lo hi bI cc} g' hb hg sg S1 hgb g2 h2 S2 => by
    have S3 : Sep c g2 h2 Γ := by
      have := S1.call S2
      rwa [List.nil_append] at this
    have uU : g.ob.get b = none := (S.own b (by rw [List.flatMap_cons]; exact List.mem_append_left _ (show b ∈ dA v by rw [hb]; simp))).2.1
    have Vm : g2.ob.get b = some (.cells lo hi bI true cc) := S2.bT.get _ _ (hgb.trans hg)
    have kg : ∀ f, (g2.kill b).ob.get f = if f = b then none else g2.ob.get f := AH.Ev g2 b
    have og : Sub g g2 := sg.trans S2.bT
    have s3 : Sub g (g2.kill b) := ⟨og.nx, fun f x hx => by
      rw [kg, if_neg (fun e => by subst e; rw [uU] at hx; cases hx)]
      exact og.get f x hx⟩
    refine ⟨g2.kill b, s3, ⟨S.bT.trans s3, ⟨S3.sub.nx, fun f x hx => ?_⟩, S3.ok, S3.nx, fun f h1 h2 => ⟨(S3.old f h1 h2).1, fun hn => ?_⟩, fun o ho => ?_, S.nd, fun b' bG => ⟨Nat.lt_of_lt_of_le (S.own b' bG).1 S2.nx, ?_, (S.own b' bG).2.2⟩⟩, fun w s hM => ?_⟩
    · rw [kg] at hx
      split at hx
      · cases hx
      · exact S3.sub.get f x hx
    · rw [kg]
      split
      · rfl
      · exact (S3.old f h1 h2).2 hn
    · rcases List.mem_cons.1 ho with rfl | ho
      · exact du.xf O fun b' bG => by
          rw [hb] at bG
          obtain rfl := List.mem_singleton.1 bG
          rw [hg]; exact S3.sub.get _ _ Vm
      · exact S3.de o ho
    · rw [kg]
      split
      · rfl
      · rename_i cG
        rw [List.flatMap_cons] at bG
        rcases List.mem_append.1 bG with h3 | h3
        · have h3 : b' ∈ dA v := h3
          rw [hb] at h3
          exact absurd (List.mem_singleton.1 h3) cG
        · exact (S3.own b' h3).2.1
    · rcases hM with hM | ⟨r, es, cl, e1, e2, e3⟩
      · exact .inl hM
      · refine .inr ⟨r, es, cl, e1, ?_, e3⟩
        rw [kg, if_neg (fun e => by subst e; rw [Vm] at e2; cases e2)]
        exact e2
  cases O with
  | nil =>
    refine ⟨g, .refl g, S.sub, ⟨[], .nil, A⟩, fun g2 h2 S2 => ⟨g2, S2.bT, ?_, fun _ _ h => h⟩⟩
    have := S.call S2
    rwa [List.nil_append] at this
  | un b o n lo hi cc _ hn hb hg h1 h2 hr hs =>
    obtain ⟨k1, k2, k3⟩ := S.freeze (b := b) rfl
    exact ⟨_, k1, k2.sub, ⟨ls, .mk b o n _ ls hn ⟨hb, .inr rfl⟩ hs (qN k3 hr), A.mono fun x y hh => hm _ _ _ _ k1 hh⟩, key _ rfl hg k1 k2 k3⟩
  | kn b o n cap lo hi bI cc _ hn hb hc hg h1 h2 hr hs =>
    obtain ⟨k1, k2, k3⟩ := S.freeze (b := b) rfl
    exact ⟨_, k1, k2.sub, ⟨ls, .mk b o n cap ls hn ⟨by omega, .inl ⟨hb, hc⟩⟩ hs (qN k3 hr), A.mono fun x y hh => hm _ _ _ _ k1 hh⟩, key _ rfl hg k1 k2 k3⟩
end
theorem Vn : ∀ (l : List Nat) (n : Nat) (k : List Nat → Bool), zp l n k = k (l ++ [n])
 | [], _, _ => rfl
 | x :: l, n, k => Vn l n fun l' => k (x :: l')
theorem MK {since : Nat} {seen : List Nat} : ∀ {es : List (Value × Value × Nat)} {k : List (Value × Value × Nat) → Bool}, (∀ e ∈ es, e.2.2 < since) → qt es since seen k = k (es.filter fun e => !decide (e.2.2 ∈ seen))
 | [], _, _ => rfl
 | e :: es, k, h => by
  have h1 : Nat.ble (Nat.succ e.2.2) since = true := Nat.ble_eq_true_of_le (h e List.mem_cons_self)
  have h2 : oW seen e.2.2 = decide (e.2.2 ∈ seen) := by rw [Kt]; simp
  show iff (Nat.ble (Nat.succ e.2.2) since) (bif oW seen e.2.2 then qt es since seen k else qt es since seen fun l => k (e :: l)) = _
  rw [h1, h2]
  by_cases hm : e.2.2 ∈ seen
  · rw [decide_eq_true hm, List.filter_cons, decide_eq_true hm]
    exact MK fun e he => h e (List.mem_cons_of_mem _ he)
  · rw [decide_eq_false hm, List.filter_cons, decide_eq_false hm]
    exact MK fun e he => h e (List.mem_cons_of_mem _ he)
theorem Vo {go : Value → Value → Nat → Bool} : ∀ {l : List (Value × Value × Nat)}, (∀ e ∈ l, go e.1 e.2.1 e.2.2 = true) → rT go l = true
 | [], _ => rfl
 | [(a, v, n)], h => h (a, v, n) List.mem_cons_self
 | (a, v, n) :: e :: l, h => by
  show iff (go a v n) (rT go (e :: l)) = true
  rw [iff_eq]
  exact ⟨h (a, v, n) List.mem_cons_self, Vo fun e he => h e (List.mem_cons_of_mem _ he)⟩
theorem Vp : ∀ (l : List Nat) (n : Nat) (k : Nat → Bool), ue (l ++ [n]) k = k n
 | [], _, _ => rfl
 | [x], _, _ => rfl
 | x :: y :: l, n, k => Vp (y :: l) n k
theorem Vq {a v : Value} {n : Nat} {k : Value → Value → Bool} : ∀ {es : List (Value × Value × Nat)}, (a, v, n) ∈ es → (es.map fun e => e.2.2).Nodup → rU es n k = k a v
  | (a', v', n') :: es, hm, nd => by
    have mm := List.nodup_cons.1 nd
    show (bif Nat.beq n' n then k a' v' else rU es n k) = _
    rcases List.mem_cons.1 hm with e | hm
    · cases e
      rw [Nat.beq_refl]; rfl
    · have : Nat.beq n' n = false := by
        cases hb : Nat.beq n' n with
        | false => rfl
        | true =>
          have e := Nat.eq_of_beq_eq_true hb
          subst e
          exact absurd (List.mem_map.2 ⟨_, hm, rfl⟩) mm.1
      rw [this]
      exact Vq hm mm.2
section
variable {h : AH} {R : Value → AH → Prop} {it r cl : Nat} {es : List (Value × Value × Nat)} {seen : List Nat}
theorem Vr (eX : h.ob.get it = some (.ei (some r) cl seen cl)) (hr : h.ob.get r = some (.map es cl)) (hl : ∀ e ∈ es, e.2.2 < cl)
 (K1 : ∀ e ∈ es, e.2.2 ∉ seen → R (.tuple ⟨[.bool true, e.1, e.2.1]⟩) (h.kW it (.ei (some r) cl (seen ++ [e.2.2]) cl)))
 (K0 : (∀ e ∈ es, e.2.2 ∈ seen) → R (.tuple ⟨[.bool false]⟩) (h.kill it)) : WP (.x .tB) [av it 0] h R := by
 intro k hk
 show rR h it (fun m since seen last => Option.casesOn (motive := fun _ => Bool) m (k (.tuple ⟨[.bool false]⟩) h) fun r =>
  iF h r fun es cl => iff (Nat.beq cl since && Nat.beq last since) (qt es since seen (DC h it r since seen k))) = true
 rw [MJ eX]
 show iF h r (fun es ie => iff (Nat.beq ie cl && Nat.beq cl cl) (qt es cl seen (DC h it r cl seen k))) = true
 rw [xi hr, Nat.beq_refl, MK hl]
 show DC h it r cl seen k _ = true
 have hm : ∀ e, e ∈ es.filter (fun e => !decide (e.2.2 ∈ seen)) ↔ e ∈ es ∧ e.2.2 ∉ seen := fun e => by simp
 generalize es.filter (fun e => !decide (e.2.2 ∈ seen)) = l at hm
 cases l with
 | nil =>
  show ff h it none (fun h => k (.tuple ⟨[.bool false]⟩) h) = true
  rw [TT]
  exact hk _ _ (K0 fun e he => Classical.byContradiction fun hn => by simpa using (hm e).2 ⟨he, hn⟩)
 | cons e0 l0 =>
  show rT (DB h it r cl seen k) (e0 :: l0) = true
  refine Vo fun e he => ?_
  obtain ⟨h1, h2⟩ := (hm e).1 he
  unfold DB
  rw [Vn, wO]
  exact hk _ _ (K1 e h1 h2)
theorem afJ {n : Nat} {a v : Value} (eX : h.ob.get it = some (.ei (some r) cl (seen ++ [n]) cl)) (hr : h.ob.get r = some (.map es cl)) (he : (a, v, n) ∈ es) (nd : (es.map fun e => e.2.2).Nodup) (K : R (.tuple ⟨[a, v]⟩) h) :
 WP (.x .entry) [av it 0] h R := by
 refine (cm (R := R) (h := h) (h' := h) (v := .tuple ⟨[a, v]⟩) fun k => ?_).2 K
 show rR h it (fun m _ seen last => Option.casesOn (motive := fun _ => Bool) m false fun r =>
  iF h r fun es cl => iff (Nat.beq cl last) (ue seen fun n => rU es n fun a v => k (.tuple ⟨[a, v]⟩) h)) = _
 rw [MJ eX]
 show iF h r (fun es ie => iff (Nat.beq ie cl) (ue (seen ++ [n]) fun n => rU es n fun a v => k (.tuple ⟨[a, v]⟩) h)) = _
 rw [xi hr, Nat.beq_refl, Vp, Vq he nd]
 rfl
end
def qP (e : Value × Value × Nat) : Int := match e.1 with
 | .int _ n => n
 | _ => 0
theorem cU.keys {es : List (Value × Value × Nat)} {cl : Nat} {l : List Int} (H : cU es cl l) : (es.map qP).Perm l ∧ ∀ e ∈ es, e.1 = vi (qP e) ∧ e.2.1 = .bool true := by
 obtain ⟨ks, h1, h2⟩ := H.ks
 have e1 : es.map qP = ks := by
  have : (es.map (fun e => (e.1, e.2.1))).map (fun p => match p.1 with | .int _ n => n | _ => (0 : Int)) = ks := by
   rw [h2, List.map_map]
   exact List.map_id' ks
  rw [List.map_map] at this
  exact this
 refine ⟨by rw [e1]; exact h1, fun e he => ?_⟩
 have hm : (e.1, e.2.1) ∈ ks.map fun k => (vi k, Value.bool true) := by rw [← h2]; exact List.mem_map.2 ⟨e, he, rfl⟩
 obtain ⟨k, _, hk⟩ := List.mem_map.1 hm
 obtain ⟨k1, k2⟩ := Prod.mk.inj hk
 unfold qP
 rw [← k1]
 exact ⟨rfl, k2.symm⟩
theorem ML {α β : Type} {f : α → β} : ∀ {l : List α}, (l.map f).Nodup → ∀ x ∈ l, ∀ y ∈ l, f x = f y → x = y
 | a :: l, nd, x, hx, y, hy, e => by
  have mm := List.nodup_cons.1 nd
  rcases List.mem_cons.1 hx with h1 | hx <;> rcases List.mem_cons.1 hy with h2 | hy
  · rw [h1, h2]
  · exact absurd (List.mem_map.2 ⟨y, hy, by rw [← e, h1]⟩) mm.1
  · exact absurd (List.mem_map.2 ⟨x, hx, by rw [e, h2]⟩) mm.1
  · exact ML mm.2 x hx y hy e
theorem Vs {α : Type} {l m : List α} (hl : l.Nodup) (hm : m.Nodup) (h : ∀ x ∈ l, x ∈ m) : (l ++ m.filter fun x => !decide (x ∈ l)).Perm m := by
 refine (List.perm_ext_iff_of_nodup (List.nodup_append.2 ⟨hl, hm.filter _, fun a ha b hb e => ?_⟩) hm).2 fun x => ?_
 · subst e; simp [ha] at hb
 · rw [List.mem_append, List.mem_filter]
   by_cases hx : x ∈ l
   · simp [hx, h x hx]
   · simp [hx]
theorem afK {α : Type} {l m : List α} (hl : l.Nodup) (hm : m.Nodup) (h : ∀ x ∈ l, x ∈ m) (hn : m.length ≤ l.length) : l.Perm m := by
 have p := Vs hl hm h
 have e := p.length_eq
 rw [List.length_append] at e
 have : (m.filter fun x => !decide (x ∈ l)) = [] := List.length_eq_zero_iff.1 (by omega)
 rwa [this, List.append_nil] at p
theorem Vt {α : Type} {l m : List α} (hl : l.Nodup) (hm : m.Nodup) (h : ∀ x ∈ l, x ∈ m) : l.length ≤ m.length := by
 have := (Vs hl hm h).length_eq
 rw [List.length_append] at this
 omega
theorem MM {α β : Type} {f : α → β} : ∀ {l : List α}, (l.map f).Nodup → l.Nodup
 | [], _ => .nil
 | a :: l, nd => by
  have mm := List.nodup_cons.1 nd
  exact List.nodup_cons.2 ⟨fun h => mm.1 (List.mem_map.2 ⟨a, h, rfl⟩), MM mm.2⟩
section
variable {c : Cx} {g h : AH} {Γ : List Ob}
theorem Sep.unit {b : Nat} {a : AO} (S : Sep c g h (.raw b a :: Γ)) : Sep c g (h.kill b) Γ := by
 have hb : h.ob.get b = some a := S.de _ List.mem_cons_self
 refine (S.change (.ds []) (AH.TS S.ok b) (Nat.le_refl _) (fun f _ hf => ?_) (fun r hr => by simp at hr) (by simp [Ob.bg]) (fun b hb => by simp [Ob.bg] at hb)).drop
 rw [AH.Ev, if_neg (by simpa [Ob.bg] using hf)]
theorem Sep.afL {b : Nat} {a : AO} (S : Sep c g h (.raw b a :: Γ)) (a' : AO) : Sep c g (h.kW b a') (.raw b a' :: Γ) := by
 have hb : h.ob.get b = some a := S.de _ List.mem_cons_self
 have hn := AH.lt_of_get S.ok hb
 refine S.change _ (AH.Es S.ok hn _) (Nat.le_refl _) (fun f _ hf => ?_) ?_ (by simp [Ob.bg]) (fun b' bG => by simp [Ob.bg] at bG; subst bG; exact ⟨hn, .inr (by simp [Ob.bg])⟩)
 · rw [AH.qE, if_neg (by simpa [Ob.bg] using hf)]
 · show (h.kW b a').ob.get b = _
   rw [AH.qE, if_pos rfl]
theorem Sep.range {α : Type} {l : List Int} {v : Value} (S : Sep c g h Γ) (M : gM g v l) {F : Value → (α → W) → α → W} {B : Value → (α → W) → α → W} {X : Value → α → W}
    (hF : ∀ it k a, F it k a = pr (.x .tB) [it] fun t => pr (.extract 0) [t] fun c => br c (B it k a) (X it a)) {a0 : α} (I : List Int → α → AH → List Ob → Prop) (h0 : I [] a0 g Γ)
    (step : ∀ (it : Value) (o : Ob) (k : α → W) (a : α) (g1 h1 : AH) (Γ1 : List Ob) (xs : List Int) (x : Int), I xs a g1 Γ1 → Sub g g1 → x ∈ l → x ∉ xs → Sep c g1 h1 (o :: Γ1) → (∀ R : Value → AH → Prop, R (.tuple ⟨[vi x, .bool true]⟩) h1 → WP (.x .entry) [it] h1 R) →
      (∀ a' g2 h2 Γ2, Sub g1 g2 → Sep c g2 h2 (o :: Γ2) → I (xs ++ [x]) a' g2 Γ2 → k a' h2) → B it k a h1)
    (fin : ∀ it a g1 h1 Γ1 xs, Sub g g1 → xs.Perm l → I xs a g1 Γ1 → Sep c g1 h1 Γ1 → X it a h1) : WP (.x .yb) [v] h fun it h => LP (F it) a0 h := by
  rcases M with ⟨rfl, rfl⟩ | ⟨r, es, cl, rfl, hr, A⟩
  · refine (cm (h := h) (h' := h.dH (.ei none 0 [] 0)) (v := av h.nx 0) fun k => ?_).2 ⟨1, ?_⟩
    · show kj h (.ei none 0 [] 0) (fun b h => k (av b 0) h) = _
      rw [zS]
    · show F (av h.nx 0) (gr (F (av h.nx 0)) 0) a0 _
      rw [hF]
      have eX : (h.dH (.ei none 0 [] 0)).ob.get h.nx = some (.ei none 0 [] 0) := by rw [AH.pg, if_pos rfl]
      refine (cm (h := h.dH (.ei none 0 [] 0)) (h' := h.dH (.ei none 0 [] 0)) (v := .tuple ⟨[.bool false]⟩) fun k => ?_).2 ((jd (v := .bool false) rfl).2 (show X (av h.nx 0) a0 (h.dH (.ei none 0 [] 0)) from fin _ a0 g _ Γ [] (.refl g) (.refl _) h0 (S.bS (cJ.dH h _) (AH.wN S.ok _))))
      show rR (h.dH (.ei none 0 [] 0)) h.nx _ = _
      rw [MJ eX]
  · have hrh : h.ob.get r = some (.map es cl) := S.sub.get _ _ hr
    have FE := A.keys
    have knd : (es.map qP).Nodup := FE.1.nodup_iff.2 A.kZ.nd
    refine (cm (h := h) (h' := h.dH (.ei (some r) cl [] cl)) (v := av h.nx 0) fun k => ?_).2 ⟨es.length + 1, ?_⟩
    · show iF h r (fun _ cl => kj h (.ei (some r) cl [] cl) fun b h => k (av b 0) h) = _
      rw [xi hrh, zS]
    · have S1 : Sep c g (h.dH (.ei (some r) cl [] cl)) (.raw h.nx (.ei (some r) cl [] cl) :: Γ) :=
        S.add _ (AH.wN S.ok _) (Nat.le_succ _) (cJ.dH h _).get (by show (h.dH _).ob.get h.nx = _; rw [AH.pg, if_pos rfl]) (by simp [Ob.bg]) (fun b hb => by simp [Ob.bg] at hb; subst hb; exact ⟨Nat.lt_succ_self _, Nat.le_refl _⟩)
      generalize h.nx = it at S1
      have key : ∀ (m : Nat) (mn : List (Value × Value × Nat)) (a : α) (g1 h1 : AH) (Γ1 : List Ob), mn.length + m = es.length → mn.Nodup → (∀ e ∈ mn, e ∈ es) → Sub g g1 → I (mn.map qP) a g1 Γ1 →
          Sep c g1 h1 (.raw it (.ei (some r) cl (mn.map fun e => e.2.2) cl) :: Γ1) → gr (F (av it 0)) (m + 1) a h1 := by
        intro m
        induction m with
        | zero =>
          intro mn a g1 h1 Γ1 hlen FF ag sg hI S1
          show F (av it 0) _ a h1
          rw [hF]
          have vp : mn.Perm es := afK FF (MM A.st) ag (by omega)
          refine Vr (S1.de _ List.mem_cons_self) (S1.sub.get _ _ (sg.get _ _ hr)) A.lt (fun e he hs => absurd (List.mem_map.2 ⟨e, vp.mem_iff.2 he, rfl⟩) hs) fun eO => (jd rfl).2 ?_
          exact fin _ a g1 _ Γ1 _ sg ((vp.map qP).trans FE.1) hI S1.unit
        | succ m ih =>
          intro mn a g1 h1 Γ1 hlen FF ag sg hI S1
          show F (av it 0) _ a h1
          rw [hF]
          refine Vr (S1.de _ List.mem_cons_self) (S1.sub.get _ _ (sg.get _ _ hr)) A.lt (fun e he hs => (jd rfl).2 ?_) fun eO => (jd rfl).2 ?_
          · have Vu := FE.2 e he
            have Vv : e ∉ mn := fun h => hs (List.mem_map.2 ⟨e, h, rfl⟩)
            have S2 := S1.afL (.ei (some r) cl ((mn.map fun e => e.2.2) ++ [e.2.2]) cl)
            show B (av it 0) _ a _
            refine step _ _ _ a g1 _ Γ1 (mn.map qP) (qP e) hI sg (FE.1.mem_iff.1 (List.mem_map.2 ⟨e, he, rfl⟩)) (fun h => ?_) S2 (fun R hR => ?_) (fun a' g2 h2 Γ2 og S3 hI2 => ?_)
            · obtain ⟨e', Vw, he2⟩ := List.mem_map.1 h
              exact Vv (ML knd e' (ag e' Vw) e he he2 ▸ Vw)
            · refine afJ (a := e.1) (v := e.2.1) (n := e.2.2) (S2.de _ List.mem_cons_self) (S2.sub.get _ _ (sg.get _ _ hr)) he A.st ?_
              rw [Vu.1, Vu.2]; exact hR
            · refine ih (mn ++ [e]) a' g2 h2 Γ2 (by rw [List.length_append]; simp; omega) ?_ ?_ (sg.trans og) (by rw [List.map_append]; exact hI2) (by rw [List.map_append]; exact S3)
              · exact List.nodup_append.2 ⟨FF, by simp, fun x hx y hy e' => by simp at hy; subst hy; subst e'; exact Vv hx⟩
              · intro x hx
                rcases List.mem_append.1 hx with hx | hx
                · exact ag x hx
                · simp at hx; subst hx; exact he
          · have hes : ∀ e ∈ es, e ∈ mn := fun e he => by
              obtain ⟨e', h1, h2⟩ := List.mem_map.1 (eO e he)
              exact ML A.st e' (ag e' h1) e he h2 ▸ h1
            have := Vt (MM A.st) FF hes
            omega
      exact key es.length [] a0 g _ Γ (by simp) .nil (fun e he => by simp at he) (.refl g) h0 S1
end
end
end Go.Ve
namespace Go.Ve.T
open Go.Ve Go.Proofs
noncomputable section
set_option maxRecDepth 10000
structure al where
 aO : Int
 fA : Int
 fB : Int
 fC : Int
deriving DecidableEq
def al.rep : eY al := fun g vs x => vs = [(vi x.aO), (vi x.fA), (vi x.fB), (vi x.fC)]
theorem al.mono : od al.rep := fun _ _ _ _ _ e => e
structure ax where
 dJ : Int
 ed : Int
 dY : Int
deriving DecidableEq
def ax.rep : eY ax := fun g vs x => vs = [(vi x.dJ), (vi x.ed), (vi x.dY)]
theorem ax.mono : od ax.rep := fun _ _ _ _ _ e => e
structure ah where
 aQ : ByteArray
 aR : ByteArray
 fArgs : Int
 aK : Int
 aL : Int
 ab : List al
 ay : List ax
deriving DecidableEq
def ah.rep : eY ah := fun g vs x => ∃ w1 w2 : Value, vs = [(.string x.aQ), (.string x.aR), (vi x.fArgs), (vi x.aK), (vi x.aL), w1, w2] ∧ ae al.rep 4 g w1 x.ab ∧ ae ax.rep 3 g w2 x.ay
structure dF where
 e0 : Int
 e1 : Int
 e2 : Int
deriving DecidableEq
structure dU where
 e0 : Int
 e1 : Int
deriving DecidableEq
structure qY where
 oo : ByteArray
 dB : dF
 jj : Int
 cN : dU
 jk : Bool
 jA : Bool
deriving DecidableEq
structure cv where
 gA : dF
 tf : Int
 kv : dU
 pE : Bool
deriving DecidableEq
end
end Go.Ve.T
namespace Go.Ve.T
open Go.Ve Go.Proofs Go.ChangeShapes Go.WideShapes Go.ChangeAt Go.RowKit
section
variable {H : Type} {h : AH}
abbrev jf (h : AH) (t : TypeId) (cs : List Value) (d : DataW H) : Prop := AD PP h t cs d
theorem aeo {α : Type} (R : List Value → α → Prop) (Pr : α → Prop) : ∀ ls : List (List Value), (∀ y ∈ ls, ∃ x, R y x ∧ Pr x) → ∃ l, aw R ls l ∧ ∀ x ∈ l, Pr x := by
 intro ls
 induction ls with
 | nil => intro _; exact ⟨[], aw.nil, fun x hx => by cases hx⟩
 | cons y ls ih =>
  intro hh
  obtain ⟨x, h1, h2⟩ := hh y List.mem_cons_self
  obtain ⟨l, h3, h4⟩ := ih fun z hz => hh z (List.mem_cons_of_mem _ hz)
  refine ⟨x :: l, ⟨by rw [List.length_cons, List.length_cons, h3.1], fun i a c ha hc => ?_⟩, fun z hz => ?_⟩
  · cases i with
    | zero => simp at ha hc; rw [← ha, ← hc]; exact h1
    | succ i => exact h3.2 i a c (by simpa using ha) (by simpa using hc)
  · rcases List.mem_cons.1 hz with h | h
    · rw [h]; exact h2
    · exact h4 z h
theorem aep {t : TypeId} {cs : List Value} {d : DataW H} (hu : PP.underlying t = some (.int .i64)) (A : jf h t cs d) : ∃ n, rI .i64 h cs n ∧ -9223372036854775808 ≤ n := by
 cases A with
 | int t k n aU hw =>
  rw [hu] at aU; cases aU
  refine ⟨n, rfl, ?_⟩
  have : IntKind.i64.min ≤ n ∧ n ≤ IntKind.i64.max := by
   simpa [Lit.wf] using hw
  have e : IntKind.i64.min = -9223372036854775808 := by decide
  omega
 | bool _ _ aU => rw [hu] at aU; cases aU
 | str _ _ aU => rw [hu] at aU; cases aU
 | kM _ _ aU => rw [hu] at aU; cases aU
 | sl _ _ _ _ _ _ _ _ _ aU => rw [hu] at aU; cases aU
 | struct _ _ _ _ aU => rw [hu] at aU; cases aU
 | arr _ _ _ _ _ aU => rw [hu] at aU; cases aU
theorem aeq {t : TypeId} {cs : List Value} {d : DataW H} (k : IntKind) (hu : PP.underlying t = some (.int k)) (A : jf h t cs d) : ∃ n, rI k h cs n ∧ k.min ≤ n ∧ n ≤ k.max := by
 cases A with
 | int t k n aU hw =>
  rw [hu] at aU; cases aU
  exact ⟨n, rfl, by simpa [Lit.wf] using hw⟩
 | bool _ _ aU => rw [hu] at aU; cases aU
 | str _ _ aU => rw [hu] at aU; cases aU
 | kM _ _ aU => rw [hu] at aU; cases aU
 | sl _ _ _ _ _ _ _ _ _ aU => rw [hu] at aU; cases aU
 | struct _ _ _ _ aU => rw [hu] at aU; cases aU
 | arr _ _ _ _ _ aU => rw [hu] at aU; cases aU
theorem aer {t : TypeId} {cs : List Value} {d : DataW H} (hu : PP.underlying t = some .string) (A : jf h t cs d) : ∃ s, cs = [.string s] := by
 cases A with
 | str t s aU => exact ⟨s, rfl⟩
 | bool _ _ aU => rw [hu] at aU; cases aU
 | int _ _ _ aU => rw [hu] at aU; cases aU
 | kM _ _ aU => rw [hu] at aU; cases aU
 | sl _ _ _ _ _ _ _ _ _ aU => rw [hu] at aU; cases aU
 | struct _ _ _ _ aU => rw [hu] at aU; cases aU
 | arr _ _ _ _ _ aU => rw [hu] at aU; cases aU
theorem Mj {α : Type} {rep : eY α} {sz : Nat} {t e : TypeId} {cs : List Value} {d : DataW H} (hu : PP.underlying t = some (.slice e)) (hz : PP.cellsOf e = sz) (Pr : α → Prop) (el : ∀ cs d, jf (H := H) h e cs d → ∃ x, rep h cs x ∧ Pr x) (A : jf h t cs d) : ∃ v l, cs = [v] ∧ ae rep sz h v l ∧ ∀ x ∈ l, Pr x := by
 cases A with
 | kM t e' aU => exact ⟨_, [], rfl, ae.nil, fun x hx => by cases hx⟩
 | sl t e' b o n cap fp rest cn aU hn hc gh hl ln hr he =>
  rw [hu] at aU; cases aU
  obtain ⟨l, h1, h2⟩ := aeo (rep h) Pr cn fun y hy => by
   obtain ⟨i, hi⟩ := List.getElem?_of_mem hy
   have bz : i < fp.length := by rw [hn, ← hl]; exact (List.getElem?_eq_some_iff.1 hi).1
   exact el y _ (he i y _ hi (List.getElem?_eq_getElem bz))
  refine ⟨_, l, rfl, ⟨cn, .mk b o n cap cn hl.symm ⟨?_, .inl ⟨hc, ?_⟩⟩ (fun x hx => by rw [← hz]; exact ln x hx) hr, h1⟩, h2⟩
  · have : maxLen < aT := by decide
    omega
  · have : maxLen < aT := by decide
    omega
 | bool _ _ aU => rw [hu] at aU; cases aU
 | int _ _ _ aU => rw [hu] at aU; cases aU
 | str _ _ aU => rw [hu] at aU; cases aU
 | struct _ _ _ _ aU => rw [hu] at aU; cases aU
 | arr _ _ _ _ _ aU => rw [hu] at aU; cases aU
theorem Mk {t : TypeId} {fs : Array Field} {cs : List Value} {d : DataW H} (hu : PP.underlying t = some (.struct fs)) (A : jf h t cs d) : cs.length = PP.cellsOf t ∧ ∀ (i : Nat) (f : Field), fs[i]? = some f → ∃ d', jf (H := H) h f.type ((cs.drop f.offset).take (PP.cellsOf f.type)) d' := by
 cases A with
 | struct t fs' cs ds aU hl hd he =>
  rw [hu] at aU; cases aU
  refine ⟨hl, fun i f hf => ?_⟩
  have bz : i < ds.length := by rw [hd]; exact (Array.getElem?_eq_some_iff.1 hf).1
  exact ⟨_, he i f _ hf (List.getElem?_eq_getElem bz)⟩
 | bool _ _ aU => rw [hu] at aU; cases aU
 | int _ _ _ aU => rw [hu] at aU; cases aU
 | str _ _ aU => rw [hu] at aU; cases aU
 | kM _ _ aU => rw [hu] at aU; cases aU
 | sl _ _ _ _ _ _ _ _ _ aU => rw [hu] at aU; cases aU
 | arr _ _ _ _ _ aU => rw [hu] at aU; cases aU
theorem lI {k z o : Nat} {cs : List Value} {d : DataW H} (hz : PP.cellsOf k = z) (A : jf h k ((cs.drop o).take (PP.cellsOf k)) d) : jf h k ((cs.drop o).take z) d := hz ▸ A
theorem aes : PP.cellsOf 25 = 7 := by kernel_rfl
theorem UI : PP.cellsOf 9 = 1 := by kernel_rfl
theorem UJ {cs : List Value} {d : DataW H} (A : jf h 9 cs d) : ∃ x, rS h cs x ∧ True := by
 obtain ⟨b, rfl⟩ := aer Tryz.underlying9 A
 exact ⟨b, rfl, trivial⟩
theorem px : PP.cellsOf 3 = 1 := by kernel_rfl
theorem pz {cs : List Value} {d : DataW H} (A : jf h 3 cs d) : ∃ x, rI .i64 h cs x ∧ -9223372036854775808 ≤ x := aep Tryz.underlying3 A
theorem aet : PP.cellsOf 22 = 1 := by kernel_rfl
theorem UK : PP.cellsOf 67 = 4 := by kernel_rfl
theorem aeu {α : Type} {l : List α} (h : l.length = 4) : ∃ c0 c1 c2 c3, l = [c0, c1, c2, c3] := by
 match l, h with
 | [c0, c1, c2, c3], _ => exact ⟨c0, c1, c2, c3, rfl⟩
theorem aev {cs : List Value} {d : DataW H} (A : jf h 67 cs d) : ∃ x, al.rep h cs x ∧ (-9223372036854775808 ≤ x.aO) ∧ (-9223372036854775808 ≤ x.fA) ∧ (-9223372036854775808 ≤ x.fB) ∧ (-9223372036854775808 ≤ x.fC) := by
 obtain ⟨hl, hf⟩ := Mk Tryz.underlying67 A
 obtain ⟨_, A0⟩ := hf 0 _ rfl
 obtain ⟨x0, e0, p0⟩ := pz (lI px A0)
 obtain ⟨_, A1⟩ := hf 1 _ rfl
 obtain ⟨x1, e1, p1⟩ := pz (lI px A1)
 obtain ⟨_, A2⟩ := hf 2 _ rfl
 obtain ⟨x2, e2, p2⟩ := pz (lI px A2)
 obtain ⟨_, A3⟩ := hf 3 _ rfl
 obtain ⟨x3, e3, p3⟩ := pz (lI px A3)
 rw [UK] at hl
 obtain ⟨c0, c1, c2, c3, rfl⟩ := aeu hl
 cases e0
 cases e1
 cases e2
 cases e3
 exact ⟨⟨x0, x1, x2, x3⟩, rfl, ⟨p0, p1, p2, p3⟩⟩
theorem aew {cs : List Value} {d : DataW H} (A : jf h 22 cs d) : ∃ x, (rL al.rep 4) h cs x ∧ ∀ qJ ∈ x, (-9223372036854775808 ≤ qJ.aO) ∧ (-9223372036854775808 ≤ qJ.fA) ∧ (-9223372036854775808 ≤ qJ.fB) ∧ (-9223372036854775808 ≤ qJ.fC) := by
 obtain ⟨v, l, e, f, p⟩ := Mj (rep := al.rep) Tryz.underlying22 UK (fun y => (-9223372036854775808 ≤ y.aO) ∧ (-9223372036854775808 ≤ y.fA) ∧ (-9223372036854775808 ≤ y.fB) ∧ (-9223372036854775808 ≤ y.fC)) (fun cs d A => aev A) A
 exact ⟨l, ⟨v, e, f⟩, p⟩
theorem aex : PP.cellsOf 23 = 1 := by kernel_rfl
theorem UL : PP.cellsOf 79 = 3 := by kernel_rfl
theorem aey {α : Type} {l : List α} (h : l.length = 3) : ∃ c0 c1 c2, l = [c0, c1, c2] := by
 match l, h with
 | [c0, c1, c2], _ => exact ⟨c0, c1, c2, rfl⟩
theorem aez {cs : List Value} {d : DataW H} (A : jf h 79 cs d) : ∃ x, ax.rep h cs x ∧ (-9223372036854775808 ≤ x.dJ) ∧ (-9223372036854775808 ≤ x.ed) ∧ (-9223372036854775808 ≤ x.dY) := by
 obtain ⟨hl, hf⟩ := Mk Tryz.underlying79 A
 obtain ⟨_, A0⟩ := hf 0 _ rfl
 obtain ⟨x0, e0, p0⟩ := pz (lI px A0)
 obtain ⟨_, A1⟩ := hf 1 _ rfl
 obtain ⟨x1, e1, p1⟩ := pz (lI px A1)
 obtain ⟨_, A2⟩ := hf 2 _ rfl
 obtain ⟨x2, e2, p2⟩ := pz (lI px A2)
 rw [UL] at hl
 obtain ⟨c0, c1, c2, rfl⟩ := aey hl
 cases e0
 cases e1
 cases e2
 exact ⟨⟨x0, x1, x2⟩, rfl, ⟨p0, p1, p2⟩⟩
theorem aeA {cs : List Value} {d : DataW H} (A : jf h 23 cs d) : ∃ x, (rL ax.rep 3) h cs x ∧ ∀ uL ∈ x, (-9223372036854775808 ≤ uL.dJ) ∧ (-9223372036854775808 ≤ uL.ed) ∧ (-9223372036854775808 ≤ uL.dY) := by
 obtain ⟨v, l, e, f, p⟩ := Mj (rep := ax.rep) Tryz.underlying23 UL (fun y => (-9223372036854775808 ≤ y.dJ) ∧ (-9223372036854775808 ≤ y.ed) ∧ (-9223372036854775808 ≤ y.dY)) (fun cs d A => aez A) A
 exact ⟨l, ⟨v, e, f⟩, p⟩
theorem aeB {α : Type} {l : List α} (h : l.length = 7) : ∃ c0 c1 c2 c3 c4 c5 c6, l = [c0, c1, c2, c3, c4, c5, c6] := by
 match l, h with
 | [c0, c1, c2, c3, c4, c5, c6], _ => exact ⟨c0, c1, c2, c3, c4, c5, c6, rfl⟩
theorem Zl {cs : List Value} {d : DataW H} (A : jf h 25 cs d) : ∃ x, ah.rep h cs x ∧ (-9223372036854775808 ≤ x.fArgs) ∧ (-9223372036854775808 ≤ x.aK) ∧ (-9223372036854775808 ≤ x.aL) ∧ (∀ qJ ∈ x.ab, (-9223372036854775808 ≤ qJ.aO) ∧ (-9223372036854775808 ≤ qJ.fA) ∧ (-9223372036854775808 ≤ qJ.fB) ∧ (-9223372036854775808 ≤ qJ.fC)) ∧ (∀ uL ∈ x.ay, (-9223372036854775808 ≤ uL.dJ) ∧ (-9223372036854775808 ≤ uL.ed) ∧ (-9223372036854775808 ≤ uL.dY)) := by
 obtain ⟨hl, hf⟩ := Mk Tryz.underlying25 A
 obtain ⟨_, A0⟩ := hf 0 _ rfl
 obtain ⟨x0, e0, p0⟩ := UJ (lI UI A0)
 obtain ⟨_, A1⟩ := hf 1 _ rfl
 obtain ⟨x1, e1, p1⟩ := UJ (lI UI A1)
 obtain ⟨_, A2⟩ := hf 2 _ rfl
 obtain ⟨x2, e2, p2⟩ := pz (lI px A2)
 obtain ⟨_, A3⟩ := hf 3 _ rfl
 obtain ⟨x3, e3, p3⟩ := pz (lI px A3)
 obtain ⟨_, A4⟩ := hf 4 _ rfl
 obtain ⟨x4, e4, p4⟩ := pz (lI px A4)
 obtain ⟨_, A5⟩ := hf 5 _ rfl
 obtain ⟨x5, e5, p5⟩ := aew (lI aet A5)
 obtain ⟨_, A6⟩ := hf 6 _ rfl
 obtain ⟨x6, e6, p6⟩ := aeA (lI aex A6)
 rw [aes] at hl
 obtain ⟨w5, e5, f5⟩ := e5
 obtain ⟨w6, e6, f6⟩ := e6
 obtain ⟨c0, c1, c2, c3, c4, c5, c6, rfl⟩ := aeB hl
 cases e0
 cases e1
 cases e2
 cases e3
 cases e4
 cases e5
 cases e6
 exact ⟨⟨x0, x1, x2, x3, x4, x5, x6⟩, ⟨w5, w6, rfl, f5, f6⟩, ⟨p2, p3, p4, p5, p6⟩⟩
theorem sz5 : PP.cellsOf 5 = 1 := by kernel_rfl
theorem aeC {cs : List Value} {d : DataW H} (A : jf h 5 cs d) : ∃ x, rI .u8 h cs x ∧ IntKind.u8.min ≤ x ∧ x ≤ IntKind.u8.max := aeq .u8 Tryz.underlying5 A
theorem Zn {cs : List Value} {d : DataW H} (A : jf h 76 cs d) : ∃ x, (rL (rI .u8) 1) h cs x ∧ ∀ UM ∈ x, (IntKind.u8.min ≤ UM ∧ UM ≤ IntKind.u8.max) := by
 obtain ⟨v, l, e, f, p⟩ := Mj (rep := (rI .u8)) Tryz.underlying76 sz5 (fun y => (IntKind.u8.min ≤ y ∧ y ≤ IntKind.u8.max)) (fun cs d A => aeC A) A
 exact ⟨l, ⟨v, e, f⟩, p⟩
end
section
variable {H : Type} {enc : TypeId × Value → H}
theorem Zh : sx PP 10 25 = true := by kernel_rfl
theorem Zi : sx PP 10 76 = true := by kernel_rfl
theorem PW {W : World} {t : TypeId} {v : Value} {d : DataW H} {ps : List MemPlace} (hp : sx PP 10 t = true) (ht : DataW.Trod enc PP W 0 (fun _ => true) true t v d ps) {φ : ak} {h : AH} (R : HR PP W φ h W) :
 ∃ φ' h' cs, HR PP W φ' h' W ∧ Go.Ve.Ext h.nx φ φ' ∧ cJ h h' ∧ LR φ' cs v.cells.toList ∧ jf h' t cs d := by
 obtain ⟨fuel, hf⟩ := ht
 exact adR 10 t _ _ fuel hp hf φ h R
end
end Go.Ve.T
