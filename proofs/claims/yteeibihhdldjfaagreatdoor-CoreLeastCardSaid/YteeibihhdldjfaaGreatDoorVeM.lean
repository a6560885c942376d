/- Part 13: MADE BY A PROGRAM (gen_litn.py): the functions as the evaluator takes them, and that they are what the translation says. No condition. And what follows it. -/
import Derived.Test.YteeibihhdldjfaaGreatDoorVeL
import Derived.Test.YteeibihhdldjfaaGreatDoorProg
import Derived.KernelRfl
set_option linter.unusedVariables false
set_option linter.unusedSimpArgs false
namespace Go.Ve.T
open Go.Ve Go.Proofs
noncomputable abbrev PP : Program := Tryz.prog
theorem bA : PP.follows .mixedOrders = true := by kernel_rfl
abbrev fc (f : Nat) : Value := .func (.func f) #[] #[]
abbrev bs (l : List UInt8) : Value := .string ⟨⟨l⟩⟩
abbrev o (d : Pos) (p : Prim) (a : List dL) : bf := ⟨some d, .aO p, a, none⟩
abbrev m (d : Pos) (x : dL) : bf := ⟨some d, .aO .move, [x], none⟩
def s0 : Pos := .xH
def s1 : Pos := .xO s0
def s2 : Pos := .xI s0
def s3 : Pos := .xO s1
def s4 : Pos := .xI s1
def s5 : Pos := .xO s2
def s6 : Pos := .xI s2
def s7 : Pos := .xO s3
def s8 : Pos := .xI s3
def s9 : Pos := .xO s4
def jP : Pos := .xI s4
def sv : Pos := .xO s5
def rF : Pos := .xI s5
def qC : Pos := .xO s6
def qD : Pos := .xI s6
def qE : Pos := .xO s7
def po : Pos := .xI s7
def tz : Pos := .xO s8
def tA : Pos := .xI s8
def tB : Pos := .xO s9
def tC : Pos := .xI s9
def tD : Pos := .xO jP
def tE : Pos := .xI jP
def pz : Pos := .xO sv
def tG : Pos := .xI sv
def tH : Pos := .xO rF
def tI : Pos := .xI rF
def tJ : Pos := .xO qC
def yF : Pos := .xI qC
def yG : Pos := .xO qD
def l8 : Pos := .xI qD
def yH : Pos := .xO qE
def yI : Pos := .xI qE
def G8 : Pos := .xO po
def G9 : Pos := .xI po
def zK : Pos := .xO tz
def Ha : Pos := .xI tz
def Hb : Pos := .xO tA
def Hc : Pos := .xI tA
def Hd : Pos := .xO tB
def He : Pos := .xI tB
def Hf : Pos := .xO tC
def zI : Pos := .xI tC
def Hg : Pos := .xO tD
def Hh : Pos := .xI tD
def Hi : Pos := .xO tE
def Hj : Pos := .xI tE
def su : Pos := .xO pz
def uM : Pos := .xI pz
def n5 : Pos := .xO tG
def Hk : Pos := .xI tG
def Hl : Pos := .xO tH
def Hm : Pos := .xI tH
def Hn : Pos := .xO tI
def Ho : Pos := .xI tI
def Yk : Pos := .xO tJ
def Yl : Pos := .xI tJ
abbrev TO : FuncId := 10
abbrev Lz : FuncId := 12
abbrev JT : FuncId := 18
abbrev KB : FuncId := 28
abbrev xo : FuncId := 30
abbrev Jv : FuncId := 32
abbrev En : FuncId := 38
abbrev KE : FuncId := 40
abbrev KH : FuncId := 42
abbrev Ky : FuncId := 43
abbrev uS : FuncId := 44
abbrev EH : FuncId := 45
abbrev K3 : FuncId := 46
abbrev xk : FuncId := 53
abbrev JK : FuncId := 60
abbrev JO : FuncId := 61
abbrev Em : FuncId := 62
abbrev qu : FuncId := 75
abbrev Kz : FuncId := 78
abbrev EE : FuncId := 79
abbrev sj : FuncId := 84
abbrev zJ : FuncId := 86
abbrev xj : FuncId := 87
abbrev Kx : FuncId := 88
abbrev Ju : FuncId := 90
abbrev D9 : FuncId := 93
abbrev I4 : FuncId := 100
abbrev D5 : FuncId := 101
abbrev Eb : FuncId := 102
abbrev Jh : FuncId := 103
abbrev Ec : FuncId := 104
abbrev Ti : FuncId := 107
abbrev SM : FuncId := 120
abbrev Ea : FuncId := 121
abbrev Jt : FuncId := 122
abbrev D8 : FuncId := 123
abbrev D6 : FuncId := 124
abbrev I3 : FuncId := 134
noncomputable def aF (k : Nat) : gB := (bZ PP k).getD ⟨0, [], .skip, false⟩
theorem dH {k : Nat} (h : (bZ PP k).isSome = true) : bZ PP k = some (aF k) := by
 unfold aF
 cases hc : bZ PP k with
 | none => rw [hc] at h; cases h
 | some x => rfl
theorem e3 : bZ PP 3 = some (aF 3) := dH (by kernel_rfl)
theorem e4 : bZ PP 4 = some (aF 4) := dH (by kernel_rfl)
theorem e5 : bZ PP 5 = some (aF 5) := dH (by kernel_rfl)
theorem e6 : bZ PP 6 = some (aF 6) := dH (by kernel_rfl)
theorem e7 : bZ PP 7 = some (aF 7) := dH (by kernel_rfl)
theorem e8 : bZ PP 8 = some (aF 8) := dH (by kernel_rfl)
theorem e9 : bZ PP 9 = some (aF 9) := dH (by kernel_rfl)
theorem zW : bZ PP 10 = some (aF 10) := dH (by kernel_rfl)
theorem e18 : bZ PP 18 = some (aF 18) := dH (by kernel_rfl)
theorem e28 : bZ PP 28 = some (aF 28) := dH (by kernel_rfl)
theorem e30 : bZ PP 30 = some (aF 30) := dH (by kernel_rfl)
def uH : gB := ⟨33,[.tmp s4],(.seq (.ops [o s2 (.box 25) [.t s0],m s4 (.c cZ)]) (.seq (.seq (.ops [o s7 (.bF 7) [.t s2],⟨some s8,(.call 53),[.t s7],none⟩,o s9 (.eY) [.t s8],m jP (.t s9),⟨some sv,(.aO (.move)),[.t s1],some (jP,false)⟩,⟨some rF,(.aO (.fieldAddr 5)),[.t s2],some (jP,false)⟩,⟨some qC,(.aO (.aI)),[.t rF],some (jP,false)⟩,⟨some qD,(.aO (.cx)),[.t qC],some (jP,false)⟩,⟨some qE,(.aO (.aL .sub)),[.t qD,.c (vi 1)],some (jP,false)⟩,⟨some po,(.call 75),[.t sv,.c (vi 0),.t qE],some (jP,false)⟩,⟨some tz,(.aO (.eY)),[.t po],some (jP,false)⟩,o tA (.pick) [.t jP,.c (.bool true),.t tz]]) (.cond (.t tA) (.seq (.ops [m s4 (.c cZ)]) .ret) .skip)) (.seq (.ops [o s5 (.alloc 28 [cZ]) []]) (.seq (.seq (.ops [o tB (.bF 7) [.t s2],m tC (.t s1),⟨some tD,(.call 86),[.t tB,.t tC],none⟩]) (.block 0 (.mC (.t tD) [tE,pz] (.ops [m s6 (.t tE)]) (.block 1 (.seq (.ops [o tG (.aI) [.t s5],m tH (.t s6),⟨some tI,(.call 90),[.t tG,.t tH],none⟩,o tJ (.eY) [.t tI]]) (.cond (.t tJ) (.ops [o yF (.aI) [.t s5],m yG (.t s6),o l8 (.buildSlice 3 1 [(vi 0)] [(0,1)]) [.t yG],o yH (.append 3 1 [(vi 0)]) [.t yF,.t l8],⟨none,(.aO (.store 1)),[.t s5,.t yH],none⟩]) .skip)))))) (.seq (.ops [o yI (.aI) [.t s5],m s4 (.t yI)]) .ret))))),false⟩
theorem e32 : bZ PP 32 = some uH := by kernel_rfl
theorem e38 : bZ PP 38 = some (aF 38) := dH (by kernel_rfl)
theorem e40 : bZ PP 40 = some (aF 40) := dH (by kernel_rfl)
theorem e42 : bZ PP 42 = some (aF 42) := dH (by kernel_rfl)
theorem e43 : bZ PP 43 = some (aF 43) := dH (by kernel_rfl)
theorem e44 : bZ PP 44 = some (aF 44) := dH (by kernel_rfl)
theorem e45 : bZ PP 45 = some (aF 45) := dH (by kernel_rfl)
theorem e46 : bZ PP 46 = some (aF 46) := dH (by kernel_rfl)
theorem e53 : bZ PP 53 = some (aF 53) := dH (by kernel_rfl)
def zP : gB := ⟨57,[.tmp s6],(.seq (.ops [o s3 (.box 25) [.t s0],o s4 (.box 3) [.t s1],o s5 (.box 101) [.t s2],m s6 (.c (.map none))]) (.seq (.ops [o qC (.mkMap) [],o s7 (.alloc 102 [(.map none)]) [],⟨none,(.aO (.store 1)),[.t s7,.t qC],none⟩]) (.seq (.seq (.ops [o qD (.bF 7) [.t s3],o qE (.aI) [.t s4],⟨some po,(.call 86),[.t qD,.t qE],none⟩]) (.block 0 (.mC (.t po) [tz,tA] (.seq (.ops [m s8 (.t tz)]) (.ops [m s9 (.t tA)])) (.block 1 (.seq (.ops [o tB (.aI) [.t s5],m tC (.t s8),o tD (.cd 1) [.t tB,.t tC],o tE (.aI) [.t tD],o pz (.x .zN) [.t tE]]) (.block 2 (.loop (.seq (.ops [o tG (.x .uI) [.t pz],o tH (.extract 0) [.t tG]]) (.seq (.cond (.t tH) .skip (.exit 2)) (.block 3 (.seq (.ops [o tI (.x .entry) [.t pz],o tJ (.extract 0) [.t tI],m jP (.t tJ)]) (.seq (.ops [m yF (.t s9),o yG (.aL .eql) [.t yF,.c (vi 2)],m l8 (.t yG),⟨some yH,(.aO (.move)),[.t jP],some (l8,false)⟩,⟨some yI,(.aO (.fieldAddr 5)),[.t s3],some (l8,false)⟩,⟨some G8,(.aO (.aI)),[.t yI],some (l8,false)⟩,⟨some G9,(.aO (.aI)),[.t s4],some (l8,false)⟩,⟨some zK,(.aO (.cd 4)),[.t G8,.t G9],some (l8,false)⟩,⟨some Ha,(.aO (.bF 4)),[.t zK],some (l8,false)⟩,⟨some Hb,(.call 38),[.t Ha],some (l8,false)⟩,⟨some Hc,(.aO (.aL .neq)),[.t yH,.t Hb],some (l8,false)⟩,o Hd (.pick) [.t l8,.c (.bool true),.t Hc]]) (.cond (.t Hd) (.ops [o He (.aI) [.t s7],m Hf (.t jP),⟨none,(.aO (.pv 0)),[.t He,.t Hf,.c (.bool true)],none⟩]) .skip))))))))))))) (.seq (.seq (.ops [o zI (.fieldAddr 5) [.t s3],o Hg (.aI) [.t zI],o Hh (.aI) [.t s4],o Hi (.cd 4) [.t Hg,.t Hh],o Hj (.bF 4) [.t Hi],⟨some su,(.call 30),[.t Hj],none⟩,o uM (.cx) [.t su],m n5 (.c (vi 0))]) (.block 4 (.loop (.seq (.ops [o Hk (.aL .lss) [.t n5,.t uM]]) (.seq (.cond (.t Hk) .skip (.exit 4)) (.seq (.block 5 (.seq (.ops [o Hl (.cd 1) [.t su,.t n5],o Hm (.aI) [.t Hl],m rF (.t Hm)]) (.ops [o Hn (.aI) [.t s7],m Ho (.t rF),⟨none,(.aO (.pv 0)),[.t Hn,.t Ho,.c (.bool true)],none⟩]))) (.ops [o Yk (.aL .add) [.t n5,.c (vi 1)],m n5 (.t Yk)]))))))) (.seq (.ops [o Yl (.aI) [.t s7],m s6 (.t Yl)]) .ret))))),true⟩
theorem e60 : bZ PP 60 = some zP := by kernel_rfl
theorem e61 : bZ PP 61 = some (aF 61) := dH (by kernel_rfl)
theorem e62 : bZ PP 62 = some (aF 62) := dH (by kernel_rfl)
theorem e75 : bZ PP 75 = some (aF 75) := dH (by kernel_rfl)
def zV : gB := ⟨55,[.cell s4 none],(.seq (.ops [o s2 (.box 25) [.t s0],o s3 (.box 100) [.t s1],o s4 (.alloc 39 [cZ]) []]) (.seq (.ops [o jP (.fieldAddr 5) [.t s2],o sv (.aI) [.t jP],o rF (.cx) [.t sv],o qC (.mkSlice 4 1 [(.bool false)]) [.t rF,.t rF],o s5 (.alloc 39 [cZ]) [],⟨none,(.aO (.store 1)),[.t s5,.t qC],none⟩]) (.seq (.ops [o qD (.buildSlice 3 1 [(vi 0)] [(0,1)]) [.c (vi 0)],o s6 (.alloc 28 [cZ]) [],⟨none,(.aO (.store 1)),[.t s6,.t qD],none⟩]) (.seq (.ops [o qE (.aI) [.t s5],o po (.cd 1) [.t qE,.c (vi 0)],⟨none,(.aO (.store 1)),[.t po,.c (.bool true)],none⟩]) (.seq (.block 0 (.loop (.seq (.seq (.ops [o tz (.aI) [.t s6],o tA (.cx) [.t tz],o tB (.aL .gtr) [.t tA,.c (vi 0)]]) (.cond (.t tB) .skip (.exit 0))) (.block 1 (.seq (.ops [o tC (.aI) [.t s6],o tD (.aI) [.t s6],o tE (.cx) [.t tD],o pz (.aL .sub) [.t tE,.c (vi 1)],o tG (.cd 1) [.t tC,.t pz],o tH (.aI) [.t tG],o s7 (.alloc 3 [(vi 0)]) [],⟨none,(.aO (.store 1)),[.t s7,.t tH],none⟩]) (.seq (.ops [o tI (.aI) [.t s6],o tJ (.aI) [.t s6],o yF (.cx) [.t tJ],o yG (.aL .sub) [.t yF,.c (vi 1)],o l8 (.slice 1 false true false) [.t tI,.t yG],⟨none,(.aO (.store 1)),[.t s6,.t l8],none⟩]) (.seq (.ops [o yH (.bF 7) [.t s2],o yI (.aI) [.t s7],⟨some G8,(.call 86),[.t yH,.t yI],none⟩]) (.block 2 (.mC (.t G8) [G9,zK] (.seq (.ops [m s8 (.t G9)]) (.ops [m s9 (.t zK)])) (.block 3 (.seq (.seq (.ops [o Ha (.aI) [.t s3],o Hb (.aI) [.t s7],m Hc (.t s8),m Hd (.t s9),⟨some He,.dyn,[.t Ha,.t Hb,.t Hc,.t Hd],none⟩,o Hf (.eY) [.t He]]) (.cond (.t Hf) (.seq (.ops [⟨none,(.aO (.store 1)),[.t s4,.c cZ],none⟩]) .ret) .skip)) (.seq (.ops [o zI (.aI) [.t s5],m Hg (.t s8),o Hh (.cd 1) [.t zI,.t Hg],o Hi (.aI) [.t Hh],o Hj (.eY) [.t Hi]]) (.cond (.t Hj) (.seq (.ops [o su (.aI) [.t s5],m uM (.t s8),o n5 (.cd 1) [.t su,.t uM],⟨none,(.aO (.store 1)),[.t n5,.c (.bool true)],none⟩]) (.ops [o Hk (.aI) [.t s6],m Hl (.t s8),o Hm (.buildSlice 3 1 [(vi 0)] [(0,1)]) [.t Hl],o Hn (.append 3 1 [(vi 0)]) [.t Hk,.t Hm],⟨none,(.aO (.store 1)),[.t s6,.t Hn],none⟩])) .skip))))))))))))) (.seq (.ops [o Ho (.aI) [.t s5],⟨none,(.aO (.store 1)),[.t s4,.t Ho],none⟩]) .ret)))))),false⟩
theorem e78 : bZ PP 78 = some zV := by kernel_rfl
theorem e79 : bZ PP 79 = some (aF 79) := dH (by kernel_rfl)
theorem e84 : bZ PP 84 = some (aF 84) := dH (by kernel_rfl)
theorem e86 : bZ PP 86 = some (aF 86) := dH (by kernel_rfl)
theorem e87 : bZ PP 87 = some (aF 87) := dH (by kernel_rfl)
theorem e88 : bZ PP 88 = some (aF 88) := dH (by kernel_rfl)
theorem e90 : bZ PP 90 = some (aF 90) := dH (by kernel_rfl)
theorem e93 : bZ PP 93 = some (aF 93) := dH (by kernel_rfl)
theorem abr : bZ PP 100 = some (aF 100) := dH (by kernel_rfl)
theorem abw : bZ PP 101 = some (aF 101) := dH (by kernel_rfl)
theorem abG : bZ PP 102 = some (aF 102) := dH (by kernel_rfl)
theorem abK : bZ PP 103 = some (aF 103) := dH (by kernel_rfl)
theorem abI : bZ PP 104 = some (aF 104) := dH (by kernel_rfl)
theorem agZ : bZ PP 120 = some (aF 120) := dH (by kernel_rfl)
theorem abD : bZ PP 121 = some (aF 121) := dH (by kernel_rfl)
theorem abN : bZ PP 122 = some (aF 122) := dH (by kernel_rfl)
theorem abA : bZ PP 123 = some (aF 123) := dH (by kernel_rfl)
theorem aby : bZ PP 124 = some (aF 124) := dH (by kernel_rfl)
theorem abp : bZ PP 134 = some (aF 134) := dH (by kernel_rfl)
end Go.Ve.T
namespace Go.Ve
open Go.RowKit
noncomputable section
def Prim.GM : Prim → Bool
 | .move => true
 | _ => false
theorem Prim.agp {p : Prim} (h : p.GM = true) : p = .move := by
 unfold Prim.GM at h
 split at h
 · rfl
 · cases h
def GN (P : Program) (w0 : World) (act : iH) (vs : List Value) (E K : Value → W) : W := match act with
 | .aO p => (match p.GM, vs with
  | true, [x] => K x
  | _, vs => pr p vs K)
 | .call f => cl P w0 f vs E K
 | .dyn => dy P w0 vs E K
 | .panic => pn vs E
 | _ => fun _ => False
def yx (P : Program) (w0 : World) (o : bf) (σ : Sl) (E K : Value → W) : W := match o.guard with
 | none => GN P w0 o.act (o.args.map (eg σ)) E K
 | some (g, want) => gd (σ g) want (fun k => GN P w0 o.act (o.args.map (eg σ)) E k) K
def GO (P : Program) (w0 : World) : List bf → Sl → (Value → W) → (Sl → W) → W
 | [], σ, _, N => N σ
 | o :: l, σ, E, N => yx P w0 o σ E fun v => GO P w0 l (σ.eR o.dst v) E N
def GP (p : Prim) (vs : List Value) (v : Value) (K : W) : W := bif p.makes then ckm p vs v K else ck p vs v K
def GQ (o : bf) (σ : Sl) (K : W) : W := match o.act, o.dst with
 | .aO p, some q => (match o.guard with
  | none => GP p (o.args.map (eg σ)) (σ q) K
  | some (g, want) => gk (σ g) want (fun k => GP p (o.args.map (eg σ)) (σ q) k) K)
 | _, _ => fun _ => False
def Bx (P : Program) (w0 : World) : List iI → Sl → (Value → W) → (Sl → W) → W
 | [], σ, _, N => N σ
 | .op _ o :: l, σ, E, N => yx P w0 o σ E fun v => Bx P w0 l (σ.eR o.dst v) E N
 | .lf _ o :: l, σ, E, N => GQ o σ (Bx P w0 l σ E N)
def By : List Pos → Type
 | [] => Unit
 | [_] => Value
 | _ :: q :: ps => Value × By (q :: ps)
def kr : (ps : List Pos) → Sl → By ps
 | [], _ => ()
 | [p], σ => σ p
 | p :: q :: ps, σ => (σ p, kr (q :: ps) σ)
def rC : (ps : List Pos) → Sl → By ps → Sl
 | [], σ, _ => σ
 | [p], σ, a => σ.up p a
 | p :: q :: ps, σ, a => (rC (q :: ps) σ a.2).up p a.1
def nl : cN → Nat
 | .seq a b => nl a + nl b
 | .cond _ a b => nl a + nl b
 | .block _ c => nl c
 | .loop c => nl c + 1
 | _ => 0
def cF (P : Program) (w0 : World) : cN → List (List Pos) → Sl → (Value → W) → (AX → Sl → W) → W
 | .skip, _, σ, _, X => X .normal σ
 | .ops l, _, σ, E, X => GO P w0 l σ E (X .normal)
 | .draw l, _, σ, E, X => Bx P w0 l σ E (X .normal)
 | .seq a b, L, σ, E, X => cF P w0 a L σ E fun x σ => match x with
  | .normal => cF P w0 b (L.drop (nl a)) σ E X
  | x => X x σ
 | .cond c a b, L, σ, E, X => br (eg σ c) (cF P w0 a L σ E X) (cF P w0 b (L.drop (nl a)) σ E X)
 | .block id c, L, σ, E, X => cF P w0 c L σ E fun x σ => match x with
  | .exit j => bif Nat.beq j id then X .normal σ else X (.exit j) σ
  | x => X x σ
 | .loop c, L, σ, E, X => (match L with
  | ps :: L => LP (α := By ps) (fun k a => cF P w0 c L (rC ps σ a) E fun x σ => match x with
   | .normal => k (kr ps σ)
   | x => X x σ) (kr ps σ)
  | [] => fun _ => False)
 | .mC _ _ _ _, _, _, _, _ => fun _ => False
 | .exit id, _, σ, _, X => X (.exit id) σ
 | .ret, _, σ, _, X => X .ret σ
def cA (D : Nat) (p : Pos) : Bool := D.testBit p.un
def Bz (D : Nat) (p : Pos) : Nat := D ^^^ (D &&& (1 <<< p.un))
def Pb (D : Nat) : Option Pos → Nat
 | none => D
 | some p => Bz D p
def qa (D : Nat) : Option Pos → Nat
 | none => D
 | some p => D ||| (1 <<< p.un)
def jD (D : Nat) : List Pos → Nat
 | [] => D
 | p :: ps => jD (Bz D p) ps
def agree (D : Nat) (σ τ : Sl) : Prop := ∀ p, cA D p = false → σ p = τ p
theorem XJ (p q : Pos) : (1 <<< p.un).testBit q.un = decide (q = p) := by
 rw [Nat.one_shiftLeft, Nat.testBit_two_pow]
 exact decide_eq_decide.2 ⟨fun e => (Pos.sx e).symm, fun e => by rw [e]⟩
theorem GR (A B : Nat) (p : Pos) : cA (A ||| B) p = (cA A p || cA B p) := Nat.testBit_or ..
theorem XK (D : Nat) (p q : Pos) : cA (Bz D p) q = (cA D q && !decide (q = p)) := by
 unfold cA Bz
 rw [Nat.testBit_xor, Nat.testBit_and, XJ]
 cases D.testBit q.un <;> cases decide (q = p) <;> rfl
theorem yy (D : Nat) (p q : Pos) : cA (qa D (some p)) q = (cA D q || decide (q = p)) := by
 unfold cA qa
 rw [Nat.testBit_or, XJ]
theorem XL {q : Pos} : ∀ {ps : List Pos} {D : Nat}, cA (jD D ps) q = (cA D q && !decide (q ∈ ps))
 | [], D => by simp [jD]
 | p :: ps, D => by
  rw [jD, XL, XK]
  by_cases e : q = p <;> simp [e]
theorem agree.or {A B : Nat} {σ τ : Sl} (h : agree A σ τ) : agree (A ||| B) σ τ := fun p hp => h p (by rw [GR, Bool.or_eq_false_iff] at hp; exact hp.1)
theorem agree.or' {A B : Nat} {σ τ : Sl} (h : agree B σ τ) : agree (A ||| B) σ τ := fun p hp => h p (by rw [GR, Bool.or_eq_false_iff] at hp; exact hp.2)
theorem Sl.tt (σ : Sl) (p q : Pos) (v : Value) : σ.up p v q = if q = p then v else σ q := by
 unfold Sl.up
 by_cases e : q = p
 · rw [if_pos e, Pos.beq_iff.2 e.symm]; rfl
 · rw [if_neg e]
   cases h : p.beq q with
   | false => rfl
   | true => exact absurd (Pos.beq_iff.1 h).symm e
theorem agree.up {D : Nat} {σ τ : Sl} (h : agree D σ τ) : ∀ (d : Option Pos) (v : Value), agree (Pb D d) (σ.eR d v) (τ.eR d v)
 | none, _ => h
 | some p, v => fun q hq => by
  show σ.up p v q = τ.up p v q
  rw [Sl.tt, Sl.tt]
  by_cases e : q = p
  · rw [if_pos e, if_pos e]
  · rw [if_neg e, if_neg e]
    refine h q ?_
    have hq : cA (Bz D p) q = false := hq
    rw [XK] at hq
    simpa [e] using hq
structure Out where
 n : Option Nat
 r : Option Nat
 x : List (Nat × Nat)
def jO : Option Nat → Option Nat → Option Nat
 | none, b => b
 | a, none => a
 | some a, some b => some (a ||| b)
def yz (D : Nat) : dL → Bool
 | .t p => !cA D p
 | .c _ => true
def qb (D : Nat) (o : bf) : Bool := o.args.all (yz D) && (match o.guard with
 | none => true
 | some (g, _) => !cA D g)
def BA : List bf → Nat → Option Nat
 | [], D => some D
 | o :: l, D => bif qb D o then BA l (Pb D o.dst) else none
def vS : List iI → Nat → Option Nat
 | [], D => some D
 | .op _ o :: l, D => bif qb D o then vS l (Pb D o.dst) else none
 | .lf _ o :: l, D => bif qb D o && (match o.dst with
  | none => true
  | some q => !cA D q) then vS l D else none
def tu : List bf → Nat → Nat
 | [], D => D
 | o :: l, D => tu l (qa D o.dst)
def oC : List iI → Nat → Nat
 | [], D => D
 | .op _ o :: l, D => oC l (qa D o.dst)
 | .lf _ _ :: l, D => oC l D
def wr : cN → Nat → Nat
 | .ops l, D => tu l D
 | .draw l, D => oC l D
 | .seq a b, D => wr b (wr a D)
 | .cond _ a b, D => wr b (wr a D)
 | .block _ c, D => wr c D
 | .loop c, D => wr c D
 | _, D => D
def rD (id : Nat) : List (Nat × Nat) → Option Nat
 | [] => none
 | (j, D) :: l => bif Nat.beq j id then jO (some D) (rD id l) else rD id l
def yA (id : Nat) : List (Nat × Nat) → List (Nat × Nat)
 | [] => []
 | (j, D) :: l => bif Nat.beq j id then yA id l else (j, D) :: yA id l
def Out.XM : Option Nat → Option Out
 | none => none
 | some D => some ⟨some D, none, []⟩
def agq (ra : Out) (rb : Option Out) : Option Out := match rb with
 | none => none
 | some rb => some ⟨rb.n, jO ra.r rb.r, ra.x ++ rb.x⟩
def XN : Option Out → Option Out → Option Out
 | some ra, some rb => some ⟨jO ra.n rb.n, jO ra.r rb.r, ra.x ++ rb.x⟩
 | _, _ => none
def ags (id : Nat) : Option Out → Option Out
 | none => none
 | some r => some ⟨jO r.n (rD id r.x), r.r, yA id r.x⟩
def rE (D : Nat) : List Pos → Bool
 | [] => true
 | p :: ps => !cA D p && rE D ps
def yB (D : Nat) : List Pos → Bool
 | [] => true
 | p :: ps => cA D p && yB D ps
def GS (ps : List Pos) (D0 : Nat) : Option Out → Option Out
 | none => none
 | some r => (match r.n with
  | none => some ⟨none, r.r, r.x⟩
  | some D1 => bif rE D1 ps && Nat.beq (D1 ||| D0) D0 then some ⟨none, r.r, r.x⟩ else none)
def gU : cN → List (List Pos) → Nat → Option Out
 | .skip, _, D => some ⟨some D, none, []⟩
 | .ops l, _, D => Out.XM (BA l D)
 | .draw l, _, D => Out.XM (vS l D)
 | .seq a b, L, D => (match gU a L D with
  | none => none
  | some ra => (match ra.n with
   | none => some ra
   | some D1 => agq ra (gU b (L.drop (nl a)) D1)))
 | .cond c a b, L, D => bif yz D c then XN (gU a L D) (gU b (L.drop (nl a)) D) else none
 | .block id c, L, D => ags id (gU c L D)
 | .loop c, L, D => (match L with
  | [] => none
  | ps :: L => bif rE D ps && yB (wr c 0) ps then GS ps (D ||| jD (wr c 0) ps) (gU c L (D ||| jD (wr c 0) ps)) else none)
 | .exit id, _, D => some ⟨none, none, [(id, D)]⟩
 | .ret, _, D => some ⟨none, some D, []⟩
 | .mC _ _ _ _, _, _ => none
def Out.at (r : Out) (x : AX) (D : Nat) : Prop := match x with
 | .normal => r.n = some D
 | .ret => r.r = some D
 | .exit id => (id, D) ∈ r.x
 | .aN _ => False
theorem BB {a b : Option Nat} {A : Nat} (h : a = some A) : ∃ B, jO a b = some (A ||| B) ∧ (b = none → B = 0) := by
 subst h
 cases b with
 | none => exact ⟨0, by simp [jO], fun _ => rfl⟩
 | some b => exact ⟨b, rfl, fun h => by cases h⟩
theorem BC {a b : Option Nat} {B : Nat} (h : b = some B) : ∃ A, jO a b = some (A ||| B) := by
 subst h
 cases a with
 | none => exact ⟨0, by simp [jO]⟩
 | some a => exact ⟨a, rfl⟩
theorem GU {p : Pos} : ∀ {l : List bf} {D : Nat}, cA (tu l D) p = (cA D p || cA (tu l 0) p)
 | [], D => by simp [tu, cA]
 | o :: l, D => by
  rw [tu, tu, GU, GU (D := qa 0 o.dst), ← Bool.or_assoc]
  congr 1
  cases o.dst with
  | none => simp [qa, cA]
  | some q => rw [yy, yy]; simp [cA]
theorem BD {p : Pos} : ∀ {l : List iI} {D : Nat}, cA (oC l D) p = (cA D p || cA (oC l 0) p)
 | [], D => by simp [oC, cA]
 | .lf _ _ :: l, D => by rw [oC, oC, BD]
 | .op _ o :: l, D => by
  rw [oC, oC, BD, BD (D := qa 0 o.dst), ← Bool.or_assoc]
  congr 1
  cases o.dst with
  | none => simp [qa, cA]
  | some q => rw [yy, yy]; simp [cA]
theorem agt (p : Pos) : cA 0 p = false := by simp [cA]
theorem agu {p : Pos} : ∀ (c : cN) (D : Nat), cA (wr c D) p = (cA D p || cA (wr c 0) p) := by
 intro c
 induction c with
 | ops l => exact fun D => GU
 | draw l => exact fun D => BD
 | seq a b jB jd => intro D; simp only [wr]; rw [jd, jd (wr a 0), jB, Bool.or_assoc]
 | cond c a b jB jd => intro D; simp only [wr]; rw [jd, jd (wr a 0), jB, Bool.or_assoc]
 | block id c ih => exact ih
 | loop c ih => exact ih
 | _ => intro D; simp only [wr]; rw [agt, Bool.or_false]
def ch (c : cN) (σ σ' : Sl) : Prop := ∀ p, cA (wr c 0) p = false → σ' p = σ p
theorem yC {a b : cN} {p : Pos} (h : cA (wr b (wr a 0)) p = false) : cA (wr a 0) p = false ∧ cA (wr b 0) p = false := by
 rw [agu] at h
 exact Bool.or_eq_false_iff.1 h
theorem Pc {D : Nat} {p : Pos} : ∀ {ps : List Pos}, rE D ps = true → p ∈ ps → cA D p = false
 | q :: ps, h, hp => by
  rw [rE, Bool.and_eq_true] at h
  rcases List.mem_cons.1 hp with rfl | hp
  · simpa using h.1
  · exact Pc h.2 hp
theorem XO {D : Nat} {p : Pos} : ∀ {ps : List Pos}, yB D ps = true → p ∈ ps → cA D p = true
 | q :: ps, h, hp => by
  rw [yB, Bool.and_eq_true] at h
  rcases List.mem_cons.1 hp with rfl | hp
  · exact h.1
  · exact XO h.2 hp
theorem Pd {σ τ : Sl} : ∀ {ps : List Pos}, (∀ p ∈ ps, σ p = τ p) → kr ps σ = kr ps τ
 | [], _ => rfl
 | [p], h => h p (by simp)
 | p :: q :: ps, h => by
  show (σ p, kr (q :: ps) σ) = (τ p, kr (q :: ps) τ)
  rw [h p (by simp), Pd fun x hx => h x (List.mem_cons_of_mem _ hx)]
theorem XP {σ τ : Sl} {x : Pos} : ∀ {ps : List Pos}, x ∈ ps → rC ps σ (kr ps τ) x = τ x
 | [p], h => by
  obtain rfl := List.mem_singleton.1 h
  show σ.up x (τ x) x = τ x
  rw [Sl.tt, if_pos rfl]
 | p :: q :: ps, h => by
  show (rC (q :: ps) σ (kr (q :: ps) τ)).up p (τ p) x = τ x
  rw [Sl.tt]
  by_cases e : x = p
  · rw [if_pos e, e]
  · rw [if_neg e]
    exact XP ((List.mem_cons.1 h).resolve_left e)
theorem Pe {σ : Sl} {x : Pos} : ∀ {ps : List Pos} {a : By ps}, x ∉ ps → rC ps σ a x = σ x
 | [], _, _ => rfl
 | [p], a, h => by
  exact (Sl.tt σ p x a).trans (if_neg (by simpa using h))
 | p :: q :: ps, a, h => by
  show (rC (q :: ps) σ a.2).up p a.1 x = σ x
  rw [Sl.tt, if_neg fun e => h (by simp [e]), Pe fun hx => h (List.mem_cons_of_mem _ hx)]
section
variable {P : Program} {w0 : World} {e : Env} {d : DS}
theorem XQ {D : Nat} {σ τ : Sl} (h : agree D σ τ) {o : dL} (ho : yz D o = true) : eg σ o = eg τ o := by
 cases o with
 | t p => exact h p (by simpa [yz] using ho)
 | c v => rfl
theorem Pf {D : Nat} {σ τ : Sl} (h : agree D σ τ) : ∀ {l : List dL}, l.all (yz D) = true → l.map (eg σ) = l.map (eg τ)
 | [], _ => rfl
 | o :: l, hl => by
  rw [List.all_cons, Bool.and_eq_true] at hl
  rw [List.map_cons, List.map_cons, Pf h hl.2, XQ h hl.1]
theorem XR {D : Nat} {σ τ : Sl} (h : agree D σ τ) {o : bf} (ho : qb D o = true) {E K : Value → W} : yx P w0 o σ E K = yx P w0 o τ E K := by
 obtain ⟨dst, act, args, g⟩ := o
 rw [qb, Bool.and_eq_true] at ho
 unfold yx
 simp only
 rw [Pf h ho.1]
 cases g with
 | none => rfl
 | some pw =>
  obtain ⟨g, want⟩ := pw
  have h2 : cA D g = false := by simpa using ho.2
  simp only [h g h2]
theorem XS {act : iH} {dst : Option Pos} {vs : List Value} {σ : Sl} {h : AH} {E K : Value → W} {Q : PQ} {K' : Sl → DS → AH → Prop} (H : GN P w0 act vs E K h) (hE : ∀ v h, E v h → Q (.aN v) σ d h) (hK : ∀ v h, K v h → K' (σ.eR dst v) d h) : iQ P w0 act dst e σ d h vs Q K' := by
 cases act with
 | aO p =>
  simp only [GN] at H
  revert H
  cases hp : p.GM with
  | false => exact fun H => GB (e := e) (Q := Q) H hK
  | true =>
   match vs with
   | [] => exact fun H => GB (e := e) (Q := Q) H hK
   | [x] => intro H; rw [Prim.agp hp]; exact fun k hk => hk _ _ (hK _ _ H)
   | _ :: _ :: _ => exact fun H => GB (e := e) (Q := Q) H hK
 | call f => exact OD H hE hK
 | dyn => exact Xx H hE hK
 | panic => exact af3 H hE
 | _ => exact H.elim
theorem XT {o : bf} {σ : Sl} {h : AH} {E K : Value → W} {Q : PQ} {K' : Sl → DS → AH → Prop} (H : yx P w0 o σ E K h) (hE : ∀ v h, E v h → Q (.aN v) σ d h) (hK : ∀ v h, K v h → K' (σ.eR o.dst v) d h) : wpOp P w0 o e σ d h Q K' := by
 obtain ⟨dst, act, args, g⟩ := o
 cases g with
 | none => exact XS H hE hK
 | some pw => exact GC rfl H (fun H => XS H hE hK) hK
theorem agv {E : Value → W} {N : Sl → W} {Q : PQ} (hE : ∀ v σ h, E v h → Q (.aN v) σ d h) : ∀ {l : List bf} {D D' : Nat} {σm σ : Sl} {h : AH}, BA l D = some D' → agree D σm σ → GO P w0 l σm E N h →
 (∀ σm' σ' h, agree D' σm' σ' → ch (.ops l) σm σm' → N σm' h → Q .normal σ' d h) → wpOps P w0 l e σ d h Q := by
 intro l
 induction l with
 | nil =>
  intro D D' σm σ h hc ha H hN
  obtain rfl := Option.some.inj hc
  exact hN _ _ _ ha (fun _ _ => rfl) H
 | cons o l ih =>
  intro D D' σm σ h hc ha H hN
  unfold BA at hc
  cases ho : qb D o with
  | false => rw [ho] at hc; cases hc
  | true =>
   rw [ho] at hc
   unfold GO at H
   rw [XR ha ho] at H
   refine XT H (fun v h => hE v σ h) fun v h H => ih hc (ha.up o.dst v) H fun σm' σ' h h1 h2 h3 => hN _ _ _ h1 (fun p hp => ?_) h3
   have hp : cA (tu l (qa 0 o.dst)) p = false := hp
   rw [GU, Bool.or_eq_false_iff] at hp
   rw [h2 p hp.2]
   revert hp
   cases o.dst with
   | none => exact fun _ => rfl
   | some q =>
    intro hp
    have h4 := hp.1
    rw [yy, Bool.or_eq_false_iff] at h4
    show σm.up q v p = σm p
    rw [Sl.tt, if_neg (by simpa using h4.2)]
theorem agw {D : Nat} {o : bf} {σm σ : Sl} {h : AH} {K : W} (ho : qb D o = true) (hd : (match o.dst with
 | none => true
 | some q => !cA D q) = true) (ha : agree D σm σ) (H : GQ o σm K h) : yr o σ h ∧ K h := by
 obtain ⟨dst, act, args, g⟩ := o
 rw [qb, Bool.and_eq_true] at ho
 have e1 := Pf ha ho.1
 cases act with
 | aO p =>
  cases dst with
  | none => exact H.elim
  | some q =>
   have e2 : σm q = σ q := ha q (by simpa using hd)
   have cc : GP p (args.map (eg σ)) (σ q) K h → vK (.aO p) (some q) (args.map (eg σ)) σ h ∧ K h := by
    unfold GP vK
    simp only
    cases p.makes with
    | true => exact id
    | false => exact id
   cases g with
   | none =>
    simp only [GQ, e1, e2] at H
    exact cc H
   | some pw =>
    obtain ⟨g, want⟩ := pw
    have e3 : σm g = σ g := ha g (by simpa using ho.2)
    simp only [GQ, e1, e2, e3] at H
    exact af4 rfl H cc
 | _ => cases dst <;> exact H.elim
theorem agx {E : Value → W} {N : Sl → W} {Q : PQ} (hE : ∀ v σ h, E v h → Q (.aN v) σ d h) : ∀ {l : List iI} {D D' : Nat} {σm σ : Sl} {h : AH}, vS l D = some D' → agree D σm σ → Bx P w0 l σm E N h →
 (∀ σm' σ' h, agree D' σm' σ' → ch (.draw l) σm σm' → N σm' h → Q .normal σ' d h) → vL P w0 l e σ d h Q := by
 intro l
 induction l with
 | nil =>
  intro D D' σm σ h hc ha H hN
  obtain rfl := Option.some.inj hc
  exact hN _ _ _ ha (fun _ _ => rfl) H
 | cons o l ih =>
  intro D D' σm σ h hc ha H hN
  cases o with
  | lf i o =>
   unfold vS at hc
   cases ho : (qb D o && (match o.dst with
    | none => true
    | some q => !cA D q)) with
   | false => rw [ho] at hc; cases hc
   | true =>
    rw [ho] at hc
    rw [Bool.and_eq_true] at ho
    have H2 := agw ho.1 ho.2 ha H
    exact ⟨H2.1, ih hc ha H2.2 hN⟩
  | op i o =>
   unfold vS at hc
   cases ho : qb D o with
   | false => rw [ho] at hc; cases hc
   | true =>
    rw [ho] at hc
    unfold Bx at H
    rw [XR ha ho] at H
    refine XT H (fun v h => hE v σ h) fun v h H => ih hc (ha.up o.dst v) H fun σm' σ' h h1 h2 h3 => hN _ _ _ h1 (fun p hp => ?_) h3
    have hp : cA (oC l (qa 0 o.dst)) p = false := hp
    rw [BD, Bool.or_eq_false_iff] at hp
    rw [h2 p hp.2]
    revert hp
    cases o.dst with
    | none => exact fun _ => rfl
    | some q =>
     intro hp
     have h4 := hp.1
     rw [yy, Bool.or_eq_false_iff] at h4
     show σm.up q v p = σm p
     rw [Sl.tt, if_neg (by simpa using h4.2)]
theorem XU {id D : Nat} : ∀ {l : List (Nat × Nat)} {j : Nat}, (j, D) ∈ l → Nat.beq j id = true → ∃ G, rD id l = some G ∧ ∀ σ τ : Sl, agree D σ τ → agree G σ τ
 | (i, A) :: l, j, hm, hj => by
  rcases List.mem_cons.1 hm with e | hm
  · obtain ⟨rfl, rfl⟩ := Prod.mk.inj e
    obtain ⟨B, hB, _⟩ := BB (a := some D) (b := rD id l) rfl
    exact ⟨_, by rw [rD, hj]; exact hB, fun σ τ h => h.or⟩
  · obtain ⟨G, h1, h2⟩ := XU hm hj
    cases hi : Nat.beq i id with
    | false => exact ⟨G, by rw [rD, hi]; exact h1, h2⟩
    | true =>
     obtain ⟨A', hA⟩ := BC (a := some A) h1
     exact ⟨_, by rw [rD, hi]; exact hA, fun σ τ h => (h2 σ τ h).or'⟩
theorem XV {id D : Nat} : ∀ {l : List (Nat × Nat)} {j : Nat}, (j, D) ∈ l → Nat.beq j id = false → (j, D) ∈ yA id l
 | (i, A) :: l, j, hm, hj => by
  rcases List.mem_cons.1 hm with e | hm
  · obtain ⟨rfl, rfl⟩ := Prod.mk.inj e
    rw [yA, hj]
    exact List.mem_cons_self
  · have := XV hm hj
    rw [yA]
    cases Nat.beq i id with
    | true => exact this
    | false => exact List.mem_cons_of_mem _ this
theorem agy (bA : P.follows .mixedOrders = true) : ∀ (c : cN) {L : List (List Pos)} {D : Nat} {r : Out} {σm σ : Sl} {h : AH} {E : Value → W} {X : AX → Sl → W} {Q : PQ}, gU c L D = some r → agree D σm σ → cF P w0 c L σm E X h →
 (∀ v σ h, E v h → Q (.aN v) σ d h) → (∀ x D' σm' σ' h, r.at x D' → agree D' σm' σ' → ch c σm σm' → X x σm' h → Q x σ' d h) → dG P w0 c e σ d h Q := by
 intro c
 induction c with
 | skip =>
  intro L D r σm σ h E X Q hc ha H hE hX
  obtain rfl := Option.some.inj hc
  exact hX .normal D _ _ _ rfl ha (fun _ _ => rfl) H
 | ops l =>
  intro L D r σm σ h E X Q hc ha H hE hX
  unfold gU at hc
  cases hD : BA l D with
  | none => rw [hD] at hc; cases hc
  | some D' =>
   rw [hD] at hc
   obtain rfl := Option.some.inj hc
   exact agv hE hD ha H fun σm' σ' h h1 h2 h3 => hX .normal D' _ _ _ rfl h1 h2 h3
 | draw l =>
  intro L D r σm σ h E X Q hc ha H hE hX
  unfold gU at hc
  cases hD : vS l D with
  | none => rw [hD] at hc; cases hc
  | some D' =>
   rw [hD] at hc
   obtain rfl := Option.some.inj hc
   exact agx hE hD ha H fun σm' σ' h h1 h2 h3 => hX .normal D' _ _ _ rfl h1 h2 h3
 | seq a b jB jd =>
  intro L D r σm σ h E X Q hc ha H hE hX
  unfold gU at hc
  cases hA : gU a L D with
  | none => rw [hA] at hc; cases hc
  | some ra =>
   rw [hA] at hc
   simp only at hc
   cases hn : ra.n with
   | none =>
    rw [hn] at hc
    obtain rfl := Option.some.inj hc
    refine jB hA ha H hE fun x D' σm' σ' h h1 h2 h3 h4 => ?_
    have hk : ch (.seq a b) σm σm' := fun p hp => h3 p (yC hp).1
    cases x with
    | normal => exact absurd (hn.symm.trans h1) nofun
    | ret => exact hX .ret D' _ _ _ h1 h2 hk h4
    | exit id => exact hX (.exit id) D' _ _ _ h1 h2 hk h4
    | aN v => exact h1.elim
   | some D1 =>
    rw [hn] at hc
    simp only at hc
    cases hB : gU b (L.drop (nl a)) D1 with
    | none => rw [hB] at hc; cases hc
    | some rb =>
     rw [hB] at hc
     obtain rfl := Option.some.inj hc
     refine jB hA ha H hE fun x D' σm' σ' h h1 h2 h3 h4 => ?_
     have hk : ch (.seq a b) σm σm' := fun p hp => h3 p (yC hp).1
     cases x with
     | normal =>
      obtain rfl := Option.some.inj (hn.symm.trans h1)
      refine jd hB h2 h4 hE fun x D' σm2 σ2 h g1 g2 g3 g4 => ?_
      have AB : ch (.seq a b) σm σm2 := fun p hp => (g3 p (yC hp).2).trans (h3 p (yC hp).1)
      cases x with
      | normal => exact hX .normal D' _ _ _ g1 g2 AB g4
      | ret =>
       obtain ⟨A, hA⟩ := BC (a := ra.r) g1
       exact hX .ret _ _ _ _ hA g2.or' AB g4
      | exit id => exact hX (.exit id) D' _ _ _ (List.mem_append_right _ g1) g2 AB g4
      | aN v => exact g1.elim
     | ret =>
      obtain ⟨B, hB, _⟩ := BB (b := rb.r) h1
      exact hX .ret _ _ _ _ hB h2.or hk h4
     | exit id => exact hX (.exit id) D' _ _ _ (List.mem_append_left _ h1) h2 hk h4
     | aN v => exact h1.elim
 | cond o a b jB jd =>
  intro L D r σm σ h E X Q hc ha H hE hX
  unfold gU at hc
  cases ho : yz D o with
  | false => rw [ho] at hc; cases hc
  | true =>
   rw [ho] at hc
   have hc : XN (gU a L D) (gU b (L.drop (nl a)) D) = some r := hc
   cases hA : gU a L D with
   | none => rw [hA] at hc; cases hc
   | some ra =>
    cases hB : gU b (L.drop (nl a)) D with
    | none => rw [hA, hB] at hc; cases hc
    | some rb =>
     rw [hA, hB] at hc
     obtain rfl := Option.some.inj hc
     unfold cF at H
     rw [XQ ha ho] at H
     refine qy rfl H (fun H => jB hA ha H hE fun x D' σm' σ' h h1 h2 h3 h4 => ?_) (fun H => jd hB ha H hE fun x D' σm' σ' h h1 h2 h3 h4 => ?_)
     · have hk : ch (.cond o a b) σm σm' := fun p hp => h3 p (yC hp).1
       cases x with
       | normal =>
        obtain ⟨B, hB, _⟩ := BB (b := rb.n) h1
        exact hX .normal _ _ _ _ hB h2.or hk h4
       | ret =>
        obtain ⟨B, hB, _⟩ := BB (b := rb.r) h1
        exact hX .ret _ _ _ _ hB h2.or hk h4
       | exit id => exact hX (.exit id) D' _ _ _ (List.mem_append_left _ h1) h2 hk h4
       | aN v => exact h1.elim
     · have hk : ch (.cond o a b) σm σm' := fun p hp => h3 p (yC hp).2
       cases x with
       | normal =>
        obtain ⟨A, hA⟩ := BC (a := ra.n) h1
        exact hX .normal _ _ _ _ hA h2.or' hk h4
       | ret =>
        obtain ⟨A, hA⟩ := BC (a := ra.r) h1
        exact hX .ret _ _ _ _ hA h2.or' hk h4
       | exit id => exact hX (.exit id) D' _ _ _ (List.mem_append_right _ h1) h2 hk h4
       | aN v => exact h1.elim
 | block id c ih =>
  intro L D r σm σ h E X Q hc ha H hE hX
  unfold gU at hc
  cases hC : gU c L D with
  | none => rw [hC] at hc; cases hc
  | some rc =>
   rw [hC] at hc
   obtain rfl := Option.some.inj hc
   refine ih hC ha H hE fun x D' σm' σ' h h1 h2 h3 h4 => ?_
   cases x with
   | normal =>
    obtain ⟨B, hB, _⟩ := BB (b := rD id rc.x) h1
    exact hX .normal _ _ _ _ hB h2.or h3 h4
   | ret => exact hX .ret D' _ _ _ h1 h2 h3 h4
   | exit j =>
    have h4 : (bif Nat.beq j id then X .normal σm' else X (.exit j) σm') h := h4
    show bif Nat.beq j id then Q .normal σ' d h else Q (.exit j) σ' d h
    cases hj : Nat.beq j id with
    | true =>
     rw [hj] at h4
     obtain ⟨G, hG, hm⟩ := XU h1 hj
     obtain ⟨A, hA⟩ := BC (a := rc.n) hG
     exact hX .normal _ _ _ _ hA (hm _ _ h2).or' h3 h4
    | false =>
     rw [hj] at h4
     exact hX (.exit j) D' _ _ _ (XV h1 hj) h2 h3 h4
   | aN v => exact h1.elim
 | loop c ih =>
  intro L D r σm σ h E X Q hc ha H hE hX
  cases L with
  | nil => cases hc
  | cons ps L =>
   have hc : (bif rE D ps && yB (wr c 0) ps then GS ps (D ||| jD (wr c 0) ps) (gU c L (D ||| jD (wr c 0) ps)) else none) = some r := hc
   cases eQ : rE D ps && yB (wr c 0) ps with
   | false => rw [eQ] at hc; cases hc
   | true =>
    rw [eQ] at hc
    have hc : GS ps (D ||| jD (wr c 0) ps) (gU c L (D ||| jD (wr c 0) ps)) = some r := hc
    rw [Bool.and_eq_true] at eQ
    cases hC : gU c L (D ||| jD (wr c 0) ps) with
    | none => rw [hC] at hc; cases hc
    | some rc =>
     rw [hC] at hc
     have fit : ∀ σ', (∀ p, cA (D ||| jD (wr c 0) ps) p = false → p ∉ ps → σm p = σ' p) → agree (D ||| jD (wr c 0) ps) (rC ps σm (kr ps σ')) σ' := fun σ' hh p hp => by
      by_cases hm : p ∈ ps
      · exact XP hm
      · rw [Pe hm]; exact hh p hp hm
     have out : ∀ p, cA (D ||| jD (wr c 0) ps) p = false → p ∉ ps → cA D p = false ∧ cA (wr c 0) p = false := fun p hp hm => by
      rw [GR, Bool.or_eq_false_iff, XL] at hp
      exact ⟨hp.1, by simpa [hm] using hp.2⟩
     have Pg : r.r = rc.r ∧ r.x = rc.x ∧ ∀ D1, rc.n = some D1 → rE D1 ps = true ∧ Nat.beq (D1 ||| (D ||| jD (wr c 0) ps)) (D ||| jD (wr c 0) ps) = true := by
      unfold GS at hc
      simp only at hc
      cases hn : rc.n with
      | none =>
       rw [hn] at hc
       obtain rfl := Option.some.inj hc
       exact ⟨rfl, rfl, nofun⟩
      | some D1 =>
       rw [hn] at hc
       simp only at hc
       cases ht : rE D1 ps && Nat.beq (D1 ||| (D ||| jD (wr c 0) ps)) (D ||| jD (wr c 0) ps) with
       | false => rw [ht] at hc; cases hc
       | true =>
        rw [ht] at hc
        obtain rfl := Option.some.inj hc
        exact ⟨rfl, rfl, fun D2 h2 => by obtain rfl := Option.some.inj h2; exact Bool.and_eq_true_iff.1 ht⟩
     obtain ⟨n, H⟩ := H
     have key : ∀ n σh h, agree (D ||| jD (wr c 0) ps) (rC ps σm (kr ps σh)) σh → eE (fun k a => cF P w0 c L (rC ps σm a) E fun x σ => match x with
      | .normal => k (kr ps σ)
      | x => X x σ) n (kr ps σh) h → WC P w0 (.loop c) e σh d h Q := by
      intro n
      induction n with
      | zero => intro σh h _ H; exact H.elim
      | succ n ihn =>
       intro σh h hh H
       refine N7 bA (ih hC hh H hE fun x D' σm' σ' h h1 h2 h3 h4 => ?_)
       have hk : ch (.loop c) σm σm' := fun p hp => (h3 p hp).trans (Pe fun hm => by
        have := XO eQ.2 hm
        rw [show cA (wr c 0) p = false from hp] at this
        cases this)
       cases x with
       | normal =>
        obtain ⟨q1, q2⟩ := Pg.2.2 D' h1
        have e1 : kr ps σm' = kr ps σ' := Pd fun p hp => h2 p (Pc q1 hp)
        refine ihn σ' h (fit σ' fun p hp hm => ?_) (e1 ▸ h4)
        rw [← hk p (out p hp hm).2]
        refine h2 p ?_
        have e2 := Nat.eq_of_beq_eq_true q2
        rw [← e2, GR, Bool.or_eq_false_iff] at hp
        exact hp.1
       | ret => exact hX .ret D' _ _ _ (Pg.1.trans h1) h2 hk h4
       | exit id => exact hX (.exit id) D' _ _ _ (show (id, D') ∈ r.x by rw [Pg.2.1]; exact h1) h2 hk h4
       | aN v => exact h1.elim
     have e0 : kr ps σm = kr ps σ := Pd fun p hp => ha p (Pc eQ.1 hp)
     exact key n σ h (fit σ fun p hp hm => ha p (out p hp hm).1) (e0 ▸ H)
 | mC f ps a b jB jd =>
  intro L D r σm σ h E X Q hc
  cases hc
 | exit id =>
  intro L D r σm σ h E X Q hc ha H hE hX
  obtain rfl := Option.some.inj hc
  exact hX (.exit id) D _ _ _ (List.mem_singleton.2 rfl) ha (fun _ _ => rfl) H
 | ret =>
  intro L D r σm σ h E X Q hc ha H hE hX
  obtain rfl := Option.some.inj hc
  exact hX .ret D _ _ _ rfl ha (fun _ _ => rfl) H
def qc (D : Nat) : List kE → Bool
 | [] => true
 | .tmp p :: rs => !cA D p && qc D rs
 | .cell p _ :: rs => !cA D p && qc D rs
theorem BE {D : Nat} {σ τ : Sl} (ha : agree D σ τ) {h : AH} : ∀ {rs : List kE} {K : List Value → Prop}, qc D rs = true → lx rs σ h K = lx rs τ h K
 | [], _, _ => rfl
 | .tmp p :: rs, K, hd => by
  rw [qc, Bool.and_eq_true] at hd
  unfold lx
  rw [ha p (by simpa using hd.1), BE ha hd.2]
 | .cell p none :: rs, K, hd => by
  rw [qc, Bool.and_eq_true] at hd
  unfold lx
  rw [ha p (by simpa using hd.1)]
  congr 1
  funext v h'
  rw [BE ha hd.2]
 | .cell p (some n) :: rs, K, hd => by
  rw [qc, Bool.and_eq_true] at hd
  unfold lx
  rw [ha p (by simpa using hd.1)]
  congr 1
  funext v h'
  rw [BE ha hd.2]
def XW (af : gB) (L : List (List Pos)) : Bool := match gU af.code L 0 with
 | none => false
 | some r => (match r.n with
  | none => true
  | some D => qc D af.results) && (match r.r with
  | none => true
  | some D => qc D af.results)
theorem eJ (bA : P.follows .mixedOrders = true) {f : FuncId} {af : gB} (hf : bZ P f = some af) (L : List (List Pos)) (hd : XW af L = true) {args : List Value} {h : AH} {R : CR → AH → Prop}
 (H : cF P w0 af.code L (Gn args) (fun v h => R (.aN v) h) (fun x σ h => Bu P w0 af.results R x σ ⟨[], .off⟩ h) h) : WF P w0 f args h R := by
 refine Ej bA hf ?_
 unfold XW at hd
 cases hc : gU af.code L 0 with
 | none => rw [hc] at hd; cases hd
 | some r =>
  rw [hc] at hd
  simp only [Bool.and_eq_true] at hd
  refine agy bA af.code hc (fun _ _ => rfl) H (fun v σ h hv => hv) fun x D' σm' σ' h h1 h2 _ h4 => ?_
  cases x with
  | normal =>
   have h5 : qc D' af.results = true := by have := hd.1; rw [show r.n = some D' from h1] at this; exact this
   have h4 : lx af.results σm' h fun vs => R (.ret (vN vs)) h := h4
   rw [BE h2 h5] at h4
   exact h4
  | ret =>
   have h5 : qc D' af.results = true := by have := hd.2; rw [show r.r = some D' from h1] at this; exact this
   have h4 : lx af.results σm' h fun vs => R (.ret (vN vs)) h := h4
   rw [BE h2 h5] at h4
   exact h4
  | exit id => exact h4.elim
  | aN v => exact h1.elim
end
end
end Go.Ve
namespace Go.Ve.T
open Go.Ve Go.Proofs
noncomputable section
set_option maxRecDepth 10000
def SI (w0 : World) (E R : Value → W) (x0 x1 x2 : Value) : W :=
 pr (.aL .leq) [x1, x0] fun v1 =>
 gd v1 true (fun k => k x0) fun v2 =>
 gd v1 true (fun k => k x2) fun v3 =>
 gd v1 true (fun k => pr (.aL .leq) [v2, v3] k) fun v4 =>
 pr (.pick) [v1, v4, (.bool false)] fun v5 =>
 R v5
theorem abn {w0 : World} {h : AH} {Q : CR → AH → Prop} (x0 x1 x2 : Value) (H : SI w0 (fun v h => Q (.aN v) h) (fun v h => Q (.ret v) h) x0 x1 x2 h) : WF PP w0 qu [x0, x1, x2] h Q :=
 eJ bA e75 [] (by kernel_rfl) (Eq.mp (by kernel_rfl) H)
def IX (w0 : World) (E R : Value → W)  : W :=
 R (vi (-1))
def IY (w0 : World) (E R : Value → W) (y3 : Value) (k2 : Value → W) : W :=
 pr (.aL .add) [y3, (vi 1)] fun v5 =>
 k2 v5
def IZ (w0 : World) (E R : Value → W) (x0 y3 x1 : Value) (k2 : Value → W) : W :=
 pr (.cd 1) [x0, y3] fun v6 =>
 pr (.aI) [v6] fun v7 =>
 dy PP w0 [x1, v7] E fun v8 =>
 br v8 (
 R y3) (
 IY w0 E R y3 k2)
def DY (w0 : World) (E R : Value → W) (v1 x0 x1 : Value) (k2 : Value → W) (y3 : Value) : W :=
 pr (.aL .lss) [y3, v1] fun v4 =>
 br v4 (
 IZ w0 E R x0 y3 x1 k2) (
 IX w0 E R )
def SJ (w0 : World) (E R : Value → W) (x0 x1 : Value) : W :=
 pr (.cx) [x0] fun v1 =>
 LP (α := Value) (fun k a => DY w0 E R v1 x0 x1 k a) ((vi 0))
theorem abo {w0 : World} {h : AH} {Q : CR → AH → Prop} (x0 x1 : Value) (H : SJ w0 (fun v h => Q (.aN v) h) (fun v h => Q (.ret v) h) x0 x1 h) : WF PP w0 I3 [x0, x1] h Q :=
 eJ bA abp [[s8]] (by kernel_rfl) (Eq.mp (by kernel_rfl) H)
def SK (w0 : World) (E R : Value → W) (x0 x1 : Value) : W :=
 cl PP w0 I3 [x0, x1] E fun v1 =>
 pr (.aL .geq) [v1, (vi 0)] fun v2 =>
 R v2
theorem abq {w0 : World} {h : AH} {Q : CR → AH → Prop} (x0 x1 : Value) (H : SK w0 (fun v h => Q (.aN v) h) (fun v h => Q (.ret v) h) x0 x1 h) : WF PP w0 I4 [x0, x1] h Q :=
 eJ bA abr [] (by kernel_rfl) (Eq.mp (by kernel_rfl) H)
def SL (w0 : World) (E R : Value → W) (x0 v1 : Value) : W :=
 cl PP w0 SM [] E fun v2 =>
 pr (.I5 35 9) [v2, x0] fun v3 =>
 pr (.store 9) [v1, v3] fun v4 =>
 ld (.bF 9) [v1] fun v5 =>
 R (.tuple ⟨[v5, (.bool true)]⟩)
def DZ (w0 : World) (E R : Value → W) (v1 x0 v9 : Value) : W :=
 br v9 (
 pr (.build [(bs []), (vi 0), (vi 0), (vi 0), (vi 0), (vi 0), (vi 0), (.bool false), (.bool false)] []) [] fun v10 =>
 pr (.store 9) [v1, v10] fun v11 =>
 ld (.bF 9) [v1] fun v12 =>
 R (.tuple ⟨[v12, (.bool false)]⟩)) (
 SL w0 E R x0 v1)
def SN (w0 : World) (E R : Value → W) (x0 : Value) : W :=
 pr (.alloc 138 [(bs []), (vi 0), (vi 0), (vi 0), (vi 0), (vi 0), (vi 0), (.bool false), (.bool false)]) [] fun v1 =>
 pr (.aL .lss) [x0, (vi 1)] fun v6 =>
 gd v6 false (fun k => k x0) fun v7 =>
 gd v6 false (fun k => pr (.aL .gtr) [v7, (vi 34)] k) fun v8 =>
 pr (.pick) [v6, (.bool true), v8] fun v9 =>
 DZ w0 E R v1 x0 v9
theorem abt {w0 : World} {h : AH} {Q : CR → AH → Prop} (x0 : Value) (H : SN w0 (fun v h => Q (.aN v) h) (fun v h => Q (.ret v) h) x0 h) : WF PP w0 sj [x0] h Q :=
 eJ bA e84 [] (by kernel_rfl) (Eq.mp (by kernel_rfl) H)
def SO (w0 : World) (E R : Value → W) (x0 : Value) : W :=
 pr (.box 67) [x0] fun v1 =>
 pr (.alloc 135 [(vi 0), (vi 0), (vi 0)]) [] fun v2 =>
 pr (.fieldAddr 1) [v1] fun v3 =>
 pr (.aI) [v3] fun v4 =>
 pr (.fieldAddr 2) [v1] fun v5 =>
 pr (.aI) [v5] fun v6 =>
 pr (.fieldAddr 3) [v1] fun v7 =>
 pr (.aI) [v7] fun v8 =>
 pr (.db [1, 1, 1]) [v4, v6, v8] fun v9 =>
 pr (.store 3) [v2, v9] fun v10 =>
 ld (.bF 3) [v2] fun v11 =>
 R v11
theorem abu {w0 : World} {h : AH} {Q : CR → AH → Prop} (x0 : Value) (H : SO w0 (fun v h => Q (.aN v) h) (fun v h => Q (.ret v) h) x0 h) : WF PP w0 xj [x0] h Q :=
 eJ bA e87 [] (by kernel_rfl) (Eq.mp (by kernel_rfl) H)
def I6 (w0 : World) (E R : Value → W) (y9 : Value) : W :=
 R y9
def D3 (w0 : World) (E R : Value → W) (aT : Value) (du : Value → Value → W) (cg : Value) : W :=
 pr (.aL .add) [aT, (vi 1)] fun eo =>
 du cg eo
def I7 (w0 : World) (E R : Value → W) (v11 aT v1 aX : Value) (du : Value → Value → W) : W :=
 pr (.qv 3) [v11, aT] fun cr =>
 pr (.aL .eql) [cr, (vi 3)] fun eK =>
 br eK (
 pr (.bF 4) [v1] fun v20 =>
 cl PP w0 xj [v20] E fun v21 =>
 pr (.qv 3) [v21, aT] fun fJ =>
 pr (.buildSlice 3 1 [(vi 0)] [(0,1)]) [fJ] fun dQ =>
 pr (.append 3 1 [(vi 0)]) [aX, dQ] fun v24 =>
 D3 w0 E R aT du v24) (
 D3 w0 E R aT du aX)
def D4 (w0 : World) (E R : Value → W) (v11 v1 : Value) (du : Value → Value → W) (aX aT : Value) : W :=
 pr (.aL .lss) [aT, (vi 3)] fun bI =>
 br bI (
 I7 w0 E R v11 aT v1 aX du) (
 I6 w0 E R  aX)
def SP (w0 : World) (E R : Value → W) (x0 : Value) : W :=
 pr (.box 67) [x0] fun v1 =>
 pr (.fieldAddr 0) [v1] fun v2 =>
 pr (.aI) [v2] fun v3 =>
 cl PP w0 sj [v3] E fun v4 =>
 pr (.extract 0) [v4] fun v5 =>
 pr (.extract 1) [v4] fun v6 =>
 pr (.alloc 138 [(bs []), (vi 0), (vi 0), (vi 0), (vi 0), (vi 0), (vi 0), (.bool false), (.bool false)]) [] fun v7 =>
 pr (.store 9) [v7, v5] fun v8 =>
 pr (.fieldAddr 1) [v7] fun v10 =>
 pr (.bF 3) [v10] fun v11 =>
 LP (α := Value × Value) (fun k a => D4 w0 E R v11 v1 (fun b0 b1 => k (b0, b1)) a.1 a.2) (cZ, (vi 0))
theorem abv {w0 : World} {h : AH} {Q : CR → AH → Prop} (x0 : Value) (H : SP w0 (fun v h => Q (.aN v) h) (fun v h => Q (.ret v) h) x0 h) : WF PP w0 D5 [x0] h Q :=
 eJ bA abw [[s5, po]] (by kernel_rfl) (Eq.mp (by kernel_rfl) H)
def SS (w0 : World) (E R : Value → W) (x0 x1 : Value) : W :=
 pr (.box 79) [x0] fun v1 =>
 pr (.fieldAddr 0) [v1] fun v2 =>
 pr (.aI) [v2] fun v3 =>
 pr (.aI) [x1] fun v4 =>
 pr (.aL .leq) [v3, v4] fun v5 =>
 gd v5 true (fun k => pr (.aI) [x1] k) fun v6 =>
 gd v5 true (fun k => pr (.fieldAddr 1) [v1] k) fun v7 =>
 gd v5 true (fun k => pr (.aI) [v7] k) fun v8 =>
 gd v5 true (fun k => pr (.aL .lss) [v6, v8] k) fun v9 =>
 pr (.pick) [v5, v9, (.bool false)] fun v10 =>
 R v10
theorem abx {w0 : World} {h : AH} {Q : CR → AH → Prop} (x0 x1 : Value) (H : SS w0 (fun v h => Q (.aN v) h) (fun v h => Q (.ret v) h) x0 x1 h) : WF PP w0 D6 [x0, x1] h Q :=
 eJ bA aby [] (by kernel_rfl) (Eq.mp (by kernel_rfl) H)
def I8 (w0 : World) (E R : Value → W)  : W :=
 R (vi (-1))
def I9 (w0 : World) (E R : Value → W) (y3 : Value) (k2 : Value → W) : W :=
 pr (.aL .add) [y3, (vi 1)] fun v5 =>
 k2 v5
def Ja (w0 : World) (E R : Value → W) (x0 y3 x1 : Value) (k2 : Value → W) : W :=
 pr (.cd 3) [x0, y3] fun v6 =>
 pr (.bF 3) [v6] fun v7 =>
 dy PP w0 [x1, v7] E fun v8 =>
 br v8 (
 R y3) (
 I9 w0 E R y3 k2)
def D7 (w0 : World) (E R : Value → W) (v1 x0 x1 : Value) (k2 : Value → W) (y3 : Value) : W :=
 pr (.aL .lss) [y3, v1] fun v4 =>
 br v4 (
 Ja w0 E R x0 y3 x1 k2) (
 I8 w0 E R )
def SU (w0 : World) (E R : Value → W) (x0 x1 : Value) : W :=
 pr (.cx) [x0] fun v1 =>
 LP (α := Value) (fun k a => D7 w0 E R v1 x0 x1 k a) ((vi 0))
theorem abz {w0 : World} {h : AH} {Q : CR → AH → Prop} (x0 x1 : Value) (H : SU w0 (fun v h => Q (.aN v) h) (fun v h => Q (.ret v) h) x0 x1 h) : WF PP w0 D8 [x0, x1] h Q :=
 eJ bA abA [[s8]] (by kernel_rfl) (Eq.mp (by kernel_rfl) H)
def SV (w0 : World) (E R : Value → W) (x0 x1 : Value) : W :=
 pr (.box 25) [x0] fun v1 =>
 pr (.box 3) [x1] fun v2 =>
 pr (.fieldAddr 6) [v1] fun v3 =>
 pr (.aI) [v3] fun v4 =>
 pr (.uF (.func D6) 0) [v2] fun v5 =>
 cl PP w0 D8 [v4, v5] E fun v6 =>
 R v6
theorem abB {w0 : World} {h : AH} {Q : CR → AH → Prop} (x0 x1 : Value) (H : SV w0 (fun v h => Q (.aN v) h) (fun v h => Q (.ret v) h) x0 x1 h) : WF PP w0 D9 [x0, x1] h Q :=
 eJ bA e93 [] (by kernel_rfl) (Eq.mp (by kernel_rfl) H)
def Jb (w0 : World) (E R : Value → W) (x1 eo x0 fJ : Value) : W :=
 br fJ (
 pr (.fieldAddr 6) [x1] fun dQ =>
 pr (.aI) [dQ] fun v24 =>
 pr (.cd 3) [v24, eo] fun fi =>
 pr (.fieldAddr 2) [fi] fun dc =>
 pr (.aI) [dc] fun fU =>
 dy PP w0 [x0, fU, (vi 2)] E fun v28 =>
 R (.tuple ⟨[]⟩)) (
 R (.tuple ⟨[]⟩))
def Jc (w0 : World) (E R : Value → W) (x1 x2 b9 x0 : Value) : W :=
 pr (.bF 7) [x1] fun bI =>
 pr (.aI) [x2] fun ey =>
 cl PP w0 D9 [bI, ey] E fun eo =>
 pr (.fieldAddr 7) [b9] fun cr =>
 pr (.aI) [cr] fun eK =>
 gd eK true (fun k => k eo) fun v20 =>
 gd eK true (fun k => pr (.aL .geq) [v20, (vi 0)] k) fun v21 =>
 pr (.pick) [eK, v21, (.bool false)] fun fJ =>
 Jb w0 E R x1 eo x0 fJ
def SW (w0 : World) (E R : Value → W) (uG : Value) (zG : Value → W) : W :=
 pr (.aL .add) [uG, (vi 1)] fun iV =>
 zG iV
def SY (w0 : World) (E R : Value → W) (v30 uG x0 : Value) (zG : Value → W) : W :=
 pr (.cd 1) [v30, uG] fun pq =>
 pr (.aI) [pq] fun v37 =>
 dy PP w0 [x0, v37, (vi 1)] E fun iF =>
 pr (.eY) [iF] fun j4 =>
 br j4 (
 R (.tuple ⟨[]⟩)) (
 SW w0 E R uG zG)
def SZ (w0 : World) (E R : Value → W) (v31 v30 x0 x1 x2 b9 : Value) (zG : Value → W) (uG : Value) : W :=
 pr (.aL .lss) [uG, v31] fun j5 =>
 br j5 (
 SY w0 E R v30 uG x0 zG) (
 Jc w0 E R x1 x2 b9 x0)
def Jd (w0 : World) (E R : Value → W) (v6 x0 x1 x2 b9 : Value) : W :=
 pr (.bF 4) [v6] fun dF =>
 cl PP w0 D5 [dF] E fun v30 =>
 pr (.cx) [v30] fun v31 =>
 LP (α := Value) (fun k a => SZ w0 E R v31 v30 x0 x1 x2 b9 k a) ((vi 0))
def zH (w0 : World) (E R : Value → W) (v6 x0 x1 x2 b9 kY : Value) : W :=
 br kY (
 R (.tuple ⟨[]⟩)) (
 Jd w0 E R v6 x0 x1 x2 b9)
def Je (w0 : World) (E R : Value → W) (x0 x2 v6 x1 b9 v49 : Value) : W :=
 gd v49 true (fun k => k x0) fun kZ =>
 gd v49 true (fun k => pr (.aI) [x2] k) fun v51 =>
 gd v49 true (fun k => pr (.aL .add) [v51, (vi 1)] k) fun j6 =>
 gd v49 true (fun k => dy PP w0 [kZ, j6, (vi 0)] E k) fun v53 =>
 gd v49 true (fun k => pr (.eY) [v53] k) fun pt =>
 pr (.pick) [v49, pt, (.bool false)] fun kY =>
 zH w0 E R v6 x0 x1 x2 b9 kY
def S4 (w0 : World) (E R : Value → W) (x0 x1 x2 : Value) : W :=
 pr (.fieldAddr 5) [x1] fun v1 =>
 pr (.aI) [v1] fun v2 =>
 pr (.aI) [x2] fun v3 =>
 pr (.cd 4) [v2, v3] fun v4 =>
 pr (.bF 4) [v4] fun v5 =>
 pr (.alloc 67 [(vi 0), (vi 0), (vi 0), (vi 0)]) [] fun v6 =>
 pr (.store 4) [v6, v5] fun v7 =>
 pr (.fieldAddr 0) [v6] fun v8 =>
 pr (.aI) [v8] fun v9 =>
 cl PP w0 sj [v9] E fun v10 =>
 pr (.extract 0) [v10] fun v11 =>
 pr (.extract 1) [v10] fun v12 =>
 pr (.alloc 138 [(bs []), (vi 0), (vi 0), (vi 0), (vi 0), (vi 0), (vi 0), (.bool false), (.bool false)]) [] fun b9 =>
 pr (.store 9) [b9, v11] fun cy =>
 pr (.fieldAddr 8) [b9] fun v40 =>
 pr (.aI) [v40] fun fV =>
 pr (.eY) [fV] fun k9 =>
 gd k9 true (fun k => pr (.aI) [x2] k) fun eL =>
 gd k9 true (fun k => pr (.aL .add) [eL, (vi 1)] k) fun mw =>
 gd k9 true (fun k => pr (.fieldAddr 5) [x1] k) fun iW =>
 gd k9 true (fun k => pr (.aI) [iW] k) fun v46 =>
 gd k9 true (fun k => pr (.cx) [v46] k) fun eM =>
 gd k9 true (fun k => pr (.aL .lss) [mw, eM] k) fun fK =>
 pr (.pick) [k9, fK, (.bool false)] fun v49 =>
 Je w0 E R x0 x2 v6 x1 b9 v49
theorem abC {w0 : World} {h : AH} {Q : CR → AH → Prop} (x0 x1 x2 : Value) (H : S4 w0 (fun v h => Q (.aN v) h) (fun v h => Q (.ret v) h) x0 x1 x2 h) : WF PP w0 Ea [x0, x1, x2] h Q :=
 eJ bA abD [[zI]] (by kernel_rfl) (Eq.mp (by kernel_rfl) H)
def S5 (w0 : World) (E R : Value → W) (x0 x1 : Value) : W :=
 pr (.box 25) [x0] fun v1 =>
 pr (.box 3) [x1] fun v2 =>
 pr (.uF (.func Ea) 0) [v1, v2] fun v3 =>
 R v3
theorem abE {w0 : World} {h : AH} {Q : CR → AH → Prop} (x0 x1 : Value) (H : S5 w0 (fun v h => Q (.aN v) h) (fun v h => Q (.ret v) h) x0 x1 h) : WF PP w0 zJ [x0, x1] h Q :=
 eJ bA e86 [] (by kernel_rfl) (Eq.mp (by kernel_rfl) H)
def S6 (w0 : World) (E R : Value → W) (x0 x1 : Value) : W :=
 pr (.aI) [x1] fun v1 =>
 pr (.aL .sub) [v1, (vi 1)] fun v2 =>
 cl PP w0 qu [x0, (vi 0), v2] E fun v3 =>
 pr (.eY) [v3] fun v4 =>
 R v4
theorem abF {w0 : World} {h : AH} {Q : CR → AH → Prop} (x0 x1 : Value) (H : S6 w0 (fun v h => Q (.aN v) h) (fun v h => Q (.ret v) h) x0 x1 h) : WF PP w0 Eb [x0, x1] h Q :=
 eJ bA abG [] (by kernel_rfl) (Eq.mp (by kernel_rfl) H)
def Jf (w0 : World) (E R : Value → W) (v1 x1 bI : Value) : W :=
 gd bI false (fun k => pr (.fieldAddr 2) [v1] k) fun ey =>
 gd bI false (fun k => pr (.aI) [ey] k) fun eo =>
 gd bI false (fun k => pr (.aI) [x1] k) fun cr =>
 gd bI false (fun k => pr (.aL .sub) [cr, (vi 1)] k) fun eK =>
 gd bI false (fun k => cl PP w0 qu [eo, (vi 0), eK] E k) fun v20 =>
 gd bI false (fun k => pr (.eY) [v20] k) fun v21 =>
 pr (.pick) [bI, (.bool true), v21] fun fJ =>
 R fJ
def Jg (w0 : World) (E R : Value → W) (v1 x1 v10 : Value) : W :=
 gd v10 false (fun k => pr (.fieldAddr 1) [v1] k) fun v11 =>
 gd v10 false (fun k => pr (.aI) [v11] k) fun v12 =>
 gd v10 false (fun k => pr (.aI) [x1] k) fun b9 =>
 gd v10 false (fun k => pr (.aL .gtr) [v12, b9] k) fun cy =>
 pr (.pick) [v10, (.bool true), cy] fun bI =>
 Jf w0 E R v1 x1 bI
def S7 (w0 : World) (E R : Value → W) (x0 x1 : Value) : W :=
 pr (.box 79) [x0] fun v1 =>
 pr (.fieldAddr 0) [v1] fun v2 =>
 pr (.aI) [v2] fun v3 =>
 pr (.aL .lss) [v3, (vi 0)] fun v4 =>
 gd v4 false (fun k => pr (.fieldAddr 0) [v1] k) fun v5 =>
 gd v4 false (fun k => pr (.aI) [v5] k) fun v6 =>
 gd v4 false (fun k => pr (.fieldAddr 1) [v1] k) fun v7 =>
 gd v4 false (fun k => pr (.aI) [v7] k) fun v8 =>
 gd v4 false (fun k => pr (.aL .geq) [v6, v8] k) fun v9 =>
 pr (.pick) [v4, (.bool true), v9] fun v10 =>
 Jg w0 E R v1 x1 v10
theorem abH {w0 : World} {h : AH} {Q : CR → AH → Prop} (x0 x1 : Value) (H : S7 w0 (fun v h => Q (.aN v) h) (fun v h => Q (.ret v) h) x0 x1 h) : WF PP w0 Ec [x0, x1] h Q :=
 eJ bA abI [] (by kernel_rfl) (Eq.mp (by kernel_rfl) H)
def S8 (w0 : World) (E R : Value → W) (x0 x1 : Value) : W :=
 cl PP w0 D8 [x0, x1] E fun v1 =>
 pr (.aL .geq) [v1, (vi 0)] fun v2 =>
 R v2
theorem abJ {w0 : World} {h : AH} {Q : CR → AH → Prop} (x0 x1 : Value) (H : S8 w0 (fun v h => Q (.aN v) h) (fun v h => Q (.ret v) h) x0 x1 h) : WF PP w0 Jh [x0, x1] h Q :=
 eJ bA abK [] (by kernel_rfl) (Eq.mp (by kernel_rfl) H)
def Ji (w0 : World) (E R : Value → W) (v1 v5 : Value) : W :=
 pr (.fieldAddr 6) [v1] fun v7 =>
 pr (.aI) [v7] fun v8 =>
 pr (.uF (.func Ec) 0) [v5] fun v9 =>
 cl PP w0 Jh [v8, v9] E fun v10 =>
 pr (.eY) [v10] fun v11 =>
 R v11
def Jj (w0 : World) (E R : Value → W) (cg : Value) (jm : Value → W) : W :=
 pr (.aL .add) [cg, (vi 1)] fun cr =>
 jm cr
def Jk (w0 : World) (E R : Value → W) (cg : Value) (jm : Value → W) (iV : Value) : W :=
 br iV (
 R (.bool false)) (
 Jj w0 E R cg jm)
def Jl (w0 : World) (E R : Value → W) (b9 cg v5 : Value) (jm : Value → W) : W :=
 pr (.cd 4) [b9, cg] fun eK =>
 pr (.bF 4) [eK] fun v20 =>
 pr (.alloc 67 [(vi 0), (vi 0), (vi 0), (vi 0)]) [] fun v21 =>
 pr (.store 4) [v21, v20] fun fJ =>
 pr (.fieldAddr 0) [v21] fun dQ =>
 pr (.aI) [dQ] fun v24 =>
 cl PP w0 sj [v24] E fun fi =>
 pr (.extract 0) [fi] fun dc =>
 pr (.extract 1) [fi] fun fU =>
 pr (.alloc 138 [(bs []), (vi 0), (vi 0), (vi 0), (vi 0), (vi 0), (vi 0), (.bool false), (.bool false)]) [] fun v28 =>
 pr (.store 9) [v28, dc] fun dF =>
 pr (.eY) [fU] fun v30 =>
 gd v30 false (fun k => pr (.bF 4) [v21] k) fun v31 =>
 gd v30 false (fun k => cl PP w0 D5 [v31] E k) fun iv =>
 gd v30 false (fun k => pr (.uF (.func Eb) 0) [v5] k) fun hO =>
 gd v30 false (fun k => cl PP w0 I4 [iv, hO] E k) fun j5 =>
 pr (.pick) [v30, (.bool true), j5] fun iV =>
 Jk w0 E R cg jm iV
def Ed (w0 : World) (E R : Value → W) (cy b9 v5 v1 : Value) (jm : Value → W) (cg : Value) : W :=
 pr (.aL .lss) [cg, cy] fun eo =>
 br eo (
 Jl w0 E R b9 cg v5 jm) (
 Ji w0 E R v1 v5)
def Jm (w0 : World) (E R : Value → W) (v1 v5 : Value) : W :=
 pr (.fieldAddr 5) [v1] fun v12 =>
 pr (.aI) [v12] fun b9 =>
 pr (.cx) [b9] fun cy =>
 LP (α := Value) (fun k a => Ed w0 E R cy b9 v5 v1 k a) ((vi 0))
def Jn (w0 : World) (E R : Value → W) (v1 v5 v53 : Value) : W :=
 br v53 (
 R (.bool false)) (
 Jm w0 E R v1 v5)
def Jo (w0 : World) (E R : Value → W) (v1 v5 fK : Value) : W :=
 gd fK false (fun k => pr (.fieldAddr 4) [v1] k) fun v49 =>
 gd fK false (fun k => pr (.aI) [v49] k) fun kZ =>
 gd fK false (fun k => cl PP w0 qu [kZ, (vi 0), (vi 200)] E k) fun v51 =>
 gd fK false (fun k => pr (.eY) [v51] k) fun j6 =>
 pr (.pick) [fK, (.bool true), j6] fun v53 =>
 Jn w0 E R v1 v5 v53
def Jp (w0 : World) (E R : Value → W) (v1 v5 eL : Value) : W :=
 gd eL false (fun k => pr (.fieldAddr 3) [v1] k) fun mw =>
 gd eL false (fun k => pr (.aI) [mw] k) fun iW =>
 gd eL false (fun k => cl PP w0 qu [iW, (vi 0), (vi 200)] E k) fun v46 =>
 gd eL false (fun k => pr (.eY) [v46] k) fun eM =>
 pr (.pick) [eL, (.bool true), eM] fun fK =>
 Jo w0 E R v1 v5 fK
def S9 (w0 : World) (E R : Value → W) (x0 : Value) : W :=
 pr (.box 25) [x0] fun v1 =>
 pr (.fieldAddr 5) [v1] fun v2 =>
 pr (.aI) [v2] fun v3 =>
 pr (.cx) [v3] fun v4 =>
 pr (.alloc 3 [(vi 0)]) [] fun v5 =>
 pr (.store 1) [v5, v4] fun v6 =>
 pr (.aI) [v5] fun pq =>
 cl PP w0 qu [pq, (vi 1), (vi 600)] E fun v37 =>
 pr (.eY) [v37] fun iF =>
 gd iF false (fun k => pr (.fieldAddr 6) [v1] k) fun j4 =>
 gd iF false (fun k => pr (.aI) [j4] k) fun v40 =>
 gd iF false (fun k => pr (.cx) [v40] k) fun fV =>
 gd iF false (fun k => pr (.aL .gtr) [fV, (vi 40)] k) fun k9 =>
 pr (.pick) [iF, (.bool true), k9] fun eL =>
 Jp w0 E R v1 v5 eL
theorem abL {w0 : World} {h : AH} {Q : CR → AH → Prop} (x0 : Value) (H : S9 w0 (fun v h => Q (.aN v) h) (fun v h => Q (.ret v) h) x0 h) : WF PP w0 xk [x0] h Q :=
 eJ bA e53 [[zK]] (by kernel_rfl) (Eq.mp (by kernel_rfl) H)
def Jq (w0 : World) (E R : Value → W)  : W :=
 R (vi (-1))
def Jr (w0 : World) (E R : Value → W) (y3 : Value) (k2 : Value → W) : W :=
 pr (.aL .add) [y3, (vi 1)] fun v5 =>
 k2 v5
def Js (w0 : World) (E R : Value → W) (x0 y3 x1 : Value) (k2 : Value → W) : W :=
 pr (.cd 1) [x0, y3] fun v6 =>
 pr (.aI) [v6] fun v7 =>
 pr (.aL .eql) [x1, v7] fun v8 =>
 br v8 (
 R y3) (
 Jr w0 E R y3 k2)
def Ee (w0 : World) (E R : Value → W) (v1 x0 x1 : Value) (k2 : Value → W) (y3 : Value) : W :=
 pr (.aL .lss) [y3, v1] fun v4 =>
 br v4 (
 Js w0 E R x0 y3 x1 k2) (
 Jq w0 E R )
def Ta (w0 : World) (E R : Value → W) (x0 x1 : Value) : W :=
 pr (.cx) [x0] fun v1 =>
 LP (α := Value) (fun k a => Ee w0 E R v1 x0 x1 k a) ((vi 0))
theorem abM {w0 : World} {h : AH} {Q : CR → AH → Prop} (x0 x1 : Value) (H : Ta w0 (fun v h => Q (.aN v) h) (fun v h => Q (.ret v) h) x0 x1 h) : WF PP w0 Jt [x0, x1] h Q :=
 eJ bA abN [[s8]] (by kernel_rfl) (Eq.mp (by kernel_rfl) H)
def Tb (w0 : World) (E R : Value → W) (x0 x1 : Value) : W :=
 cl PP w0 Jt [x0, x1] E fun v1 =>
 pr (.aL .geq) [v1, (vi 0)] fun v2 =>
 R v2
theorem abO {w0 : World} {h : AH} {Q : CR → AH → Prop} (x0 x1 : Value) (H : Tb w0 (fun v h => Q (.aN v) h) (fun v h => Q (.ret v) h) x0 x1 h) : WF PP w0 Ju [x0, x1] h Q :=
 eJ bA e90 [] (by kernel_rfl) (Eq.mp (by kernel_rfl) H)
def Ef (w0 : World) (E R : Value → W) (v3 : Value) (d4 : List Nat) : W :=
 pr (.aI) [v3] fun v5 =>
 jo (d4) (
 R v5)
def Eg (w0 : World) (E R : Value → W) (v3 : Value) (o8 : LO) (n9 : Nat) (aX aT : Value) : W :=
 qw o8 n9 (
 my o8 n9 (
 pr (.aI) [v3] fun bI =>
 cl PP w0 Ju [bI, aX] mz fun ey =>
 pr (.eY) [ey] fun eo =>
 br eo (
 pr (.aI) [v3] fun cr =>
 pr (.buildSlice 3 1 [(vi 0)] [(0,1)]) [aX] fun eK =>
 pr (.append 3 1 [(vi 0)]) [cr, eK] fun v20 =>
 pr (.store 1) [v3, v20] fun v21 =>
 jq o8 n9 .ready none true R) (
 jq o8 n9 .ready none true R)))
def Eh (w0 : World) (E R : Value → W) (v1 x1 : Value) (d2 : List Nat) : W :=
 pr (.alloc 28 [cZ]) [] fun v3 =>
 pr (.bF 7) [v1] fun v6 =>
 cl PP w0 zJ [v6, x1] (cE (d2) E) fun v7 =>
 xm PP w0 v7 (fun o8 n9 Tc R => zL (fun aX aT => Eg w0 mz R v3 o8 n9 aX aT) Tc) (fun nY => cE (nY :: d2) E) (fun nY z11 => sk z11 (
 Ef w0 E R v3 (nY :: d2)) (
 (fun _ => False)) [])
def Ei (w0 : World) (E R : Value → W) (v1 x1 iv : Value) : W :=
 br iv (
 jo (([] : List Nat)) (
 R cZ)) (
 Eh w0 E R v1 x1 (([] : List Nat)))
def Td (w0 : World) (E R : Value → W) (x0 x1 : Value) : W :=
 pr (.box 25) [x0] fun v1 =>
 pr (.bF 7) [v1] fun fJ =>
 cl PP w0 xk [fJ] (cE (([] : List Nat)) E) fun dQ =>
 pr (.eY) [dQ] fun v24 =>
 gd v24 false (fun k => k x1) fun fi =>
 gd v24 false (fun k => pr (.fieldAddr 5) [v1] k) fun dc =>
 gd v24 false (fun k => pr (.aI) [dc] k) fun fU =>
 gd v24 false (fun k => pr (.cx) [fU] k) fun v28 =>
 gd v24 false (fun k => pr (.aL .sub) [v28, (vi 1)] k) fun dF =>
 gd v24 false (fun k => cl PP w0 qu [fi, (vi 0), dF] (cE (([] : List Nat)) E) k) fun v30 =>
 gd v24 false (fun k => pr (.eY) [v30] k) fun v31 =>
 pr (.pick) [v24, (.bool true), v31] fun iv =>
 Ei w0 E R v1 x1 iv
theorem abP {w0 : World} {h : AH} {Q : CR → AH → Prop} (x0 : Value) (x1 : Value) (H : Td w0 (fun v h => Q (.aN v) h) (fun v h => Q (.ret v) h) x0 x1 h) : WF PP w0 Jv [x0, x1] h Q := by
 let E : Value → W := fun v h => Q (.aN v) h
 let R : Value → W := fun v h => Q (.ret v) h
 refine Ej bA e32 ?_
 refine ez ?_
 refine dv ?_
 refine aY (vs := [x0]) (by kernel_rfl) H fun v1 h H => ?_
 refine fL (v := cZ) (by kernel_rfl) ?_
 refine dw ?_
 refine eA ?_
 refine sn (rs := ([] : List Nat)) (α := Unit) [(s1, x1), (s2, v1)] (fun a => []) (fun σ => ()) (fun a q => Eh w0 E R v1 x1  q) (fun σ => trivial) (fun a1 d2 σ h H => ?_) ?_
 · refine ez ?_
   refine dv ?_
   refine aY (vs := []) (by kernel_rfl) H fun v3 h H => ?_
   refine dw ?_
   refine eA ?_
   refine sn (rs := d2) (α := Unit) [(s5, v3)] (fun a => []) (fun σ => ()) (fun a q => Ef w0 E R v3  q) (fun σ => trivial) (fun a2 d4 σ h H => ?_) ?_
   · refine ez ?_
     refine dv ?_
     refine aY (vs := [v3]) (by kernel_rfl) H fun v5 h H => ?_
     refine fL (v := v5) (by kernel_rfl) ?_
     refine dw ?_
     refine eA ?_
     exact zM (P := PP) (w0 := w0) uH.results Q (d4) (by kernel_rfl) (Eq.mp (by kernel_rfl) H)
   · refine ez ?_
     refine dv ?_
     refine aY (vs := [v1]) (by kernel_rfl) H fun v6 h H => ?_
     refine fL (v := x1) (by kernel_rfl) ?_
     refine xn (vs := [v6, x1]) (by kernel_rfl) H (fun _ _ H => qx (P := PP) (w0 := w0) uH.results Q (d2) (by kernel_rfl) H) fun v7 h H => ?_
     refine dw ?_
     refine eA ?_
     refine mY ?_
     refine Jw bA (rs := d2) _ _ _ _ _ (fv := v7) (by kernel_rfl) H (fun nY _ _ H => qx (P := PP) (w0 := w0) uH.results Q (nY :: d2) (by kernel_rfl) H) (fun nY h H => ?_) (fun nY h H => ?_) (fun nY => trivial) (fun o8 Te n9 Tc R h H => ?_)
     · refine nZ ?_
       exact Exists.intro (nY :: d2) (Eq.mp (by kernel_rfl) (And.intro (Eq.refl (gA (nY :: d2))) (And.intro (And.intro (Eq.refl (v3 : Value)) trivial) H)))
     · exact False.elim H
     · obtain ⟨aX, aT, rfl, H⟩ := Jx H
       let E : Value → W := mz
       have H2 := Jy H
       refine ⟨H2.1, rfl, ?_⟩
       have H := H2.2
       refine dv ?_
       refine fL (v := aX) (by kernel_rfl) ?_
       refine dw ?_
       refine Jz H (fun h H => ?_)
       refine mY ?_
       refine ez ?_
       refine dv ?_
       refine aY (vs := [v3]) (by kernel_rfl) H fun bI h H => ?_
       refine fL (v := aX) (by kernel_rfl) ?_
       refine xn (vs := [bI, aX]) (by kernel_rfl) H (fun _ _ H => False.elim H) fun ey h H => ?_
       refine aY (vs := [ey]) (by kernel_rfl) H fun eo h H => ?_
       refine dw ?_
       refine eA ?_
       refine qy (v := eo) (by kernel_rfl) H (fun H => ?_) (fun H => ?_)
       · refine dv ?_
         refine aY (vs := [v3]) (by kernel_rfl) H fun cr h H => ?_
         refine fL (v := aX) (by kernel_rfl) ?_
         refine aY (vs := [aX]) (by kernel_rfl) H fun eK h H => ?_
         refine aY (vs := [cr, eK]) (by kernel_rfl) H fun v20 h H => ?_
         refine aY (vs := [v3, v20]) (by kernel_rfl) H fun v21 h H => ?_
         refine dw ?_
         refine nZ ?_
         exact Eq.mp (by kernel_rfl) (And.intro (Eq.refl ([] : List eB)) H)
       · refine sr ?_
         refine nZ ?_
         exact Eq.mp (by kernel_rfl) (And.intro (Eq.refl ([] : List eB)) H)
 · refine ez ?_
   refine dv ?_
   refine aY (vs := [v1]) (by kernel_rfl) H fun fJ h H => ?_
   refine xn (vs := [fJ]) (by kernel_rfl) H (fun _ _ H => qx (P := PP) (w0 := w0) uH.results Q (([] : List Nat)) (by kernel_rfl) H) fun dQ h H => ?_
   refine aY (vs := [dQ]) (by kernel_rfl) H fun v24 h H => ?_
   refine fL (v := v24) (by kernel_rfl) ?_
   refine Tf (v := x1) (gv := v24) (by kernel_rfl) (by kernel_rfl) H fun fi h H => ?_
   refine n3 (vs := [v1]) (gv := v24) (by kernel_rfl) (by kernel_rfl) H fun dc h H => ?_
   refine n3 (vs := [dc]) (gv := v24) (by kernel_rfl) (by kernel_rfl) H fun fU h H => ?_
   refine n3 (vs := [fU]) (gv := v24) (by kernel_rfl) (by kernel_rfl) H fun v28 h H => ?_
   refine n3 (vs := [v28, (vi 1)]) (gv := v24) (by kernel_rfl) (by kernel_rfl) H fun dF h H => ?_
   refine Tg (vs := [fi, (vi 0), dF]) (gv := v24) (by kernel_rfl) (by kernel_rfl) H (fun _ _ H => qx (P := PP) (w0 := w0) uH.results Q (([] : List Nat)) (by kernel_rfl) H) fun v30 h H => ?_
   refine n3 (vs := [v30]) (gv := v24) (by kernel_rfl) (by kernel_rfl) H fun v31 h H => ?_
   refine aY (vs := [v24, (.bool true), v31]) (by kernel_rfl) H fun iv h H => ?_
   unfold Ei at H
   refine dw ?_
   refine eA ?_
   refine qy (v := iv) (by kernel_rfl) H (fun H => ?_) (fun H => ?_)
   · refine ez ?_
     refine dv ?_
     refine fL (v := cZ) (by kernel_rfl) ?_
     refine dw ?_
     refine eA ?_
     exact zM (P := PP) (w0 := w0) uH.results Q (([] : List Nat)) (by kernel_rfl) (Eq.mp (by kernel_rfl) H)
   · refine sr ?_
     exact Exists.intro (([] : List Nat)) (Eq.mp (by kernel_rfl) (And.intro (Eq.refl (gA (([] : List Nat)))) (And.intro (And.intro (Eq.refl (x1 : Value)) (And.intro (Eq.refl (v1 : Value)) trivial)) H)))
def JA (w0 : World) (E R : Value → W) (y9 : Value) : W :=
 R y9
def Ek (w0 : World) (E R : Value → W) (aT : Value) (du : Value → Value → W) (cg : Value) : W :=
 pr (.aL .add) [aT, (vi 1)] fun eo =>
 du cg eo
def JB (w0 : World) (E R : Value → W) (v1 cr aX aT : Value) (du : Value → Value → W) (v28 : Value) : W :=
 br v28 (
 pr (.bF 4) [v1] fun dF =>
 cl PP w0 xj [dF] E fun v30 =>
 pr (.aL .sub) [cr, (vi 1)] fun v31 =>
 pr (.qv 3) [v30, v31] fun iv =>
 pr (.buildSlice 3 1 [(vi 0)] [(0,1)]) [iv] fun hO =>
 pr (.append 3 1 [(vi 0)]) [aX, hO] fun j5 =>
 Ek w0 E R aT du j5) (
 Ek w0 E R aT du aX)
def JC (w0 : World) (E R : Value → W) (v1 cr aX aT : Value) (du : Value → Value → W) (v21 : Value) : W :=
 gd v21 true (fun k => pr (.bF 4) [v1] k) fun fJ =>
 gd v21 true (fun k => cl PP w0 xj [fJ] E k) fun dQ =>
 gd v21 true (fun k => k cr) fun v24 =>
 gd v21 true (fun k => pr (.aL .sub) [v24, (vi 1)] k) fun fi =>
 gd v21 true (fun k => pr (.qv 3) [dQ, fi] k) fun dc =>
 gd v21 true (fun k => pr (.aL .neq) [dc, (vi (-1))] k) fun fU =>
 pr (.pick) [v21, fU, (.bool false)] fun v28 =>
 JB w0 E R v1 cr aX aT du v28
def JD (w0 : World) (E R : Value → W) (v11 aT v6 v1 aX : Value) (du : Value → Value → W) : W :=
 pr (.qv 2) [v11, aT] fun cr =>
 gd v6 true (fun k => k cr) fun eK =>
 gd v6 true (fun k => pr (.aL .gtr) [eK, (vi 0)] k) fun v20 =>
 pr (.pick) [v6, v20, (.bool false)] fun v21 =>
 JC w0 E R v1 cr aX aT du v21
def El (w0 : World) (E R : Value → W) (v11 v6 v1 : Value) (du : Value → Value → W) (aX aT : Value) : W :=
 pr (.aL .lss) [aT, (vi 2)] fun bI =>
 br bI (
 JD w0 E R v11 aT v6 v1 aX du) (
 JA w0 E R  aX)
def Th (w0 : World) (E R : Value → W) (x0 : Value) : W :=
 pr (.box 67) [x0] fun v1 =>
 pr (.fieldAddr 0) [v1] fun v2 =>
 pr (.aI) [v2] fun v3 =>
 cl PP w0 sj [v3] E fun v4 =>
 pr (.extract 0) [v4] fun v5 =>
 pr (.extract 1) [v4] fun v6 =>
 pr (.alloc 138 [(bs []), (vi 0), (vi 0), (vi 0), (vi 0), (vi 0), (vi 0), (.bool false), (.bool false)]) [] fun v7 =>
 pr (.store 9) [v7, v5] fun v8 =>
 pr (.fieldAddr 5) [v7] fun v10 =>
 pr (.bF 2) [v10] fun v11 =>
 LP (α := Value × Value) (fun k a => El w0 E R v11 v6 v1 (fun b0 b1 => k (b0, b1)) a.1 a.2) (cZ, (vi 0))
theorem abQ {w0 : World} {h : AH} {Q : CR → AH → Prop} (x0 : Value) (H : Th w0 (fun v h => Q (.aN v) h) (fun v h => Q (.ret v) h) x0 h) : WF PP w0 xo [x0] h Q :=
 eJ bA e30 [[s5, po]] (by kernel_rfl) (Eq.mp (by kernel_rfl) H)
def abR (w0 : World) (E R : Value → W) (y1 : Value) : W :=
 cl PP w0 Ti [y1] E fun v2 =>
 R y1
def abS (w0 : World) (E R : Value → W) (v3 y5 : Value) (k4 : Value → W) : W :=
 pr (.x .entry) [v3] fun v8 =>
 pr (.extract 0) [v8] fun v9 =>
 pr (.buildSlice 3 1 [(vi 0)] [(0,1)]) [v9] fun v10 =>
 pr (.append 3 1 [(vi 0)]) [y5, v10] fun v11 =>
 k4 v11
def abT (w0 : World) (E R : Value → W) (v3 : Value) (k4 : Value → W) (y5 : Value) : W :=
 pr (.x .uI) [v3] fun v6 =>
 pr (.extract 0) [v6] fun v7 =>
 br v7 (
 abS w0 E R v3 y5 k4) (
 abR w0 E R  y5)
def Tj (w0 : World) (E R : Value → W) (x0 : Value) : W :=
 pr (.x .zN) [x0] fun v3 =>
 LP (α := Value) (fun k a => abT w0 E R v3 k a) (cZ)
theorem abU {w0 : World} {h : AH} {Q : CR → AH → Prop} (x0 : Value) (H : Tj w0 (fun v h => Q (.aN v) h) (fun v h => Q (.ret v) h) x0 h) : WF PP w0 Em [x0] h Q :=
 eJ bA e62 [[s3]] (by kernel_rfl) (Eq.mp (by kernel_rfl) H)
def JE (w0 : World) (E R : Value → W) (v1 v7 : Value) : W :=
 pr (.bF 4) [v1] fun v9 =>
 pr (.fieldAddr 4) [v7] fun v10 =>
 pr (.aI) [v10] fun v11 =>
 pr (.aL .sub) [v11, (vi 1)] fun v12 =>
 cl PP w0 xj [v9] E fun b9 =>
 ck (.aL .sub) [v11, (vi 1)] v12 (
 ck (.aI) [v10] v11 (
 ck (.fieldAddr 4) [v7] v10 (
 pr (.qv 3) [b9, v12] fun cy =>
 R cy)))
def Tk (w0 : World) (E R : Value → W) (x0 : Value) : W :=
 pr (.box 67) [x0] fun v1 =>
 pr (.fieldAddr 0) [v1] fun v2 =>
 pr (.aI) [v2] fun v3 =>
 cl PP w0 sj [v3] E fun v4 =>
 pr (.extract 0) [v4] fun v5 =>
 pr (.extract 1) [v4] fun v6 =>
 pr (.alloc 138 [(bs []), (vi 0), (vi 0), (vi 0), (vi 0), (vi 0), (vi 0), (.bool false), (.bool false)]) [] fun v7 =>
 pr (.store 9) [v7, v5] fun v8 =>
 pr (.fieldAddr 4) [v7] fun bI =>
 pr (.aI) [bI] fun ey =>
 pr (.aL .eql) [ey, (vi 0)] fun eo =>
 br eo (
 R (vi (-1))) (
 JE w0 E R v1 v7)
theorem abV {w0 : World} {h : AH} {Q : CR → AH → Prop} (x0 : Value) (H : Tk w0 (fun v h => Q (.aN v) h) (fun v h => Q (.ret v) h) x0 h) : WF PP w0 En [x0] h Q :=
 eJ bA e38 [] (by kernel_rfl) (Eq.mp (by kernel_rfl) H)
def JF (w0 : World) (E R : Value → W) (v5 : Value) (d8 : List Nat) : W :=
 pr (.aI) [v5] fun v9 =>
 jo (d8) (
 R v9)
def JG (w0 : World) (E R : Value → W) (uJ : Value) (zO : Value → List Nat → W) (d22 : List Nat) : W :=
 pr (.aL .add) [uJ, (vi 1)] fun dQ =>
 zO dQ (d22)
def JH (w0 : World) (E R : Value → W) (bI uJ v5 : Value) (zO : Value → List Nat → W) (d21 : List Nat) : W :=
 pr (.cd 1) [bI, uJ] fun v24 =>
 pr (.aI) [v24] fun fi =>
 pr (.aI) [v5] fun dc =>
 pr (.pv 0) [dc, fi, (.bool true)] fun fU =>
 JG w0 E R uJ zO (d21)
def uK (w0 : World) (E R : Value → W) (ey bI v5 : Value) (zO : Value → List Nat → W) (uJ : Value) (d19 : List Nat) : W :=
 pr (.aL .lss) [uJ, ey] fun v20 =>
 br v20 (
 JH w0 E R bI uJ v5 zO (d19)) (
 JF w0 E R v5 (d19))
def JI (w0 : World) (E R : Value → W) (v1 v2 v5 : Value) (d7 : List Nat) : W :=
 pr (.fieldAddr 5) [v1] fun v10 =>
 pr (.aI) [v10] fun v11 =>
 pr (.aI) [v2] fun v12 =>
 pr (.cd 4) [v11, v12] fun b9 =>
 pr (.bF 4) [b9] fun cy =>
 cl PP w0 xo [cy] (cE (d7) E) fun bI =>
 pr (.cx) [bI] fun ey =>
 LP (α := (Value) × List Nat) (fun k a => uK w0 E R ey bI v5 (fun b0 q => k ((b0), q)) a.1 a.2) (((vi 0)), d7)
def Eo (w0 : World) (E R : Value → W) (fV iG v1 v2 v5 : Value) (Ep : W) : W :=
 pr (.x .entry) [fV] fun iW =>
 pr (.extract 0) [iW] fun v46 =>
 pr (.aL .eql) [iG, (vi 2)] fun eM =>
 gd eM false (fun k => k v46) fun fK =>
 gd eM false (fun k => pr (.fieldAddr 5) [v1] k) fun v49 =>
 gd eM false (fun k => pr (.aI) [v49] k) fun kZ =>
 gd eM false (fun k => pr (.aI) [v2] k) fun v51 =>
 gd eM false (fun k => pr (.cd 4) [kZ, v51] k) fun j6 =>
 gd eM false (fun k => pr (.bF 4) [j6] k) fun v53 =>
 gd eM false (fun k => cl PP w0 En [v53] mz k) fun pt =>
 gd eM false (fun k => pr (.aL .neq) [fK, pt] k) fun kY =>
 pr (.pick) [eM, (.bool true), kY] fun n4 =>
 br n4 (
 pr (.aI) [v5] fun ed =>
 pr (.pv 0) [ed, v46, (.bool true)] fun xp =>
 Ep) (
 Ep)
def Tl (w0 : World) (E R : Value → W) (fV iG v1 v2 v5 : Value) (qz : LO) (qA : Nat) (Ep : W) : W :=
 pr (.x .uI) [fV] fun eL =>
 pr (.extract 0) [eL] fun mw =>
 br mw (
 Eo w0 E R fV iG v1 v2 v5 Ep) (
 jq qz qA .ready none true R)
def JJ (w0 : World) (E R : Value → W) (v3 v1 v2 v5 : Value) (qz : LO) (qA : Nat) (uL iG : Value) : W :=
 qw qz qA (
 my qz qA (
 pr (.aI) [v3] fun iF =>
 pr (.cd 1) [iF, uL] fun j4 =>
 pr (.aI) [j4] fun v40 =>
 pr (.x .zN) [v40] fun fV =>
 LP (α := Unit) (fun k a => Tl w0 E R fV iG v1 v2 v5 qz qA (k ()) ) ()))
def Tm (w0 : World) (E R : Value → W) (x0 x1 x2 : Value) : W :=
 pr (.box 25) [x0] fun v1 =>
 pr (.box 3) [x1] fun v2 =>
 pr (.box 101) [x2] fun v3 =>
 pr (.mkMap) [] fun v4 =>
 pr (.alloc 102 [(.map none)]) [] fun v5 =>
 pr (.store 1) [v5, v4] fun v6 =>
 pr (.bF 7) [v1] fun v28 =>
 pr (.aI) [v2] fun dF =>
 cl PP w0 zJ [v28, dF] (cE (([] : List Nat)) E) fun v30 =>
 xm PP w0 v30 (fun qz qA Tn R => zL (fun uL iG => JJ w0 mz R v3 v1 v2 v5 qz qA uL iG) Tn) (fun px => cE (px :: ([] : List Nat)) E) (fun px z34 => sk z34 (
 JI w0 E R v1 v2 v5 (px :: ([] : List Nat))) (
 (fun _ => False)) [])
theorem abW {w0 : World} {h : AH} {Q : CR → AH → Prop} (x0 : Value) (x1 : Value) (x2 : Value) (H : Tm w0 (fun v h => Q (.aN v) h) (fun v h => Q (.ret v) h) x0 x1 x2 h) : WF PP w0 JK [x0, x1, x2] h Q := by
 let E : Value → W := fun v h => Q (.aN v) h
 let R : Value → W := fun v h => Q (.ret v) h
 refine Ej bA e60 ?_
 refine ez ?_
 refine dv ?_
 refine aY (vs := [x0]) (by kernel_rfl) H fun v1 h H => ?_
 refine aY (vs := [x1]) (by kernel_rfl) H fun v2 h H => ?_
 refine aY (vs := [x2]) (by kernel_rfl) H fun v3 h H => ?_
 refine fL (v := (.map none)) (by kernel_rfl) ?_
 refine dw ?_
 refine eA ?_
 refine ez ?_
 refine dv ?_
 refine aY (vs := []) (by kernel_rfl) H fun v4 h H => ?_
 refine aY (vs := []) (by kernel_rfl) H fun v5 h H => ?_
 refine aY (vs := [v5, v4]) (by kernel_rfl) H fun v6 h H => ?_
 refine dw ?_
 refine eA ?_
 refine sn (rs := ([] : List Nat)) (α := Unit) [(s3, v1), (s4, v2), (s7, v5)] (fun a => []) (fun σ => ()) (fun a q => JI w0 E R v1 v2 v5  q) (fun σ => trivial) (fun a1 d7 σ h H => ?_) ?_
 · refine sn (rs := d7) (α := Unit) [(s7, v5)] (fun a => []) (fun σ => ()) (fun a q => JF w0 E R v5  q) (fun σ => trivial) (fun a2 d8 σ h H => ?_) ?_
   · refine ez ?_
     refine dv ?_
     refine aY (vs := [v5]) (by kernel_rfl) H fun v9 h H => ?_
     refine fL (v := v9) (by kernel_rfl) ?_
     refine dw ?_
     refine eA ?_
     exact zM (P := PP) (w0 := w0) zP.results Q (d8) (by kernel_rfl) (Eq.mp (by kernel_rfl) H)
   · refine ez ?_
     refine dv ?_
     refine aY (vs := [v1]) (by kernel_rfl) H fun v10 h H => ?_
     refine aY (vs := [v10]) (by kernel_rfl) H fun v11 h H => ?_
     refine aY (vs := [v2]) (by kernel_rfl) H fun v12 h H => ?_
     refine aY (vs := [v11, v12]) (by kernel_rfl) H fun b9 h H => ?_
     refine aY (vs := [b9]) (by kernel_rfl) H fun cy h H => ?_
     refine xn (vs := [cy]) (by kernel_rfl) H (fun _ _ H => qx (P := PP) (w0 := w0) zP.results Q (d7) (by kernel_rfl) H) fun bI h H => ?_
     refine aY (vs := [bI]) (by kernel_rfl) H fun ey h H => ?_
     refine fL (v := (vi 0)) (by kernel_rfl) ?_
     refine dw ?_
     refine eA ?_
     refine mY ?_
     refine To bA (rs := d7) (α := Value) [(s7, v5), (su, bI), (uM, ey)] (fun a => [(n5, a)]) (fun σ => (σ n5)) (fun k a => uK w0 E R ey bI v5 (fun b0 q => k ((b0), q)) a.1 a.2) (fun σ => (And.intro rfl trivial)) (fun Tp a3 d19 σ h H => ?_) (x := ((vi 0))) (by kernel_rfl) (Eq.mp (by kernel_rfl) (And.intro (Eq.refl (v5 : Value)) (And.intro (Eq.refl (bI : Value)) (And.intro (Eq.refl (ey : Value)) trivial)))) H
     refine ez ?_
     refine dv ?_
     refine aY (vs := [a3, ey]) (by kernel_rfl) H fun v20 h H => ?_
     refine dw ?_
     refine eA ?_
     refine sn (rs := d19) (α := Unit) [(s7, v5), (su, bI), (uM, ey), (n5, a3)] (fun a => []) (fun σ => ()) (fun a q => JH w0 E R bI a3 v5 (fun b0 q => Tp ((b0), q))  q) (fun σ => trivial) (fun a4 d21 σ h H => ?_) ?_
     · refine sn (rs := d21) (α := Unit) [(s7, v5), (su, bI), (uM, ey), (n5, a3)] (fun a => []) (fun σ => ()) (fun a q => JG w0 E R a3 (fun b0 q => Tp ((b0), q))  q) (fun σ => trivial) (fun a5 d22 σ h H => ?_) ?_
       · refine dv ?_
         refine aY (vs := [a3, (vi 1)]) (by kernel_rfl) H fun dQ h H => ?_
         refine fL (v := dQ) (by kernel_rfl) ?_
         refine dw ?_
         exact Exists.intro (d22) (Eq.mp (by kernel_rfl) (And.intro (Eq.refl (gA (d22))) (And.intro (And.intro (Eq.refl (v5 : Value)) (And.intro (Eq.refl (bI : Value)) (And.intro (Eq.refl (ey : Value)) trivial))) H)))
       · refine mY ?_
         refine ez ?_
         refine dv ?_
         refine aY (vs := [bI, a3]) (by kernel_rfl) H fun v24 h H => ?_
         refine aY (vs := [v24]) (by kernel_rfl) H fun fi h H => ?_
         refine fL (v := fi) (by kernel_rfl) ?_
         refine dw ?_
         refine eA ?_
         refine dv ?_
         refine aY (vs := [v5]) (by kernel_rfl) H fun dc h H => ?_
         refine fL (v := fi) (by kernel_rfl) ?_
         refine aY (vs := [dc, fi, (.bool true)]) (by kernel_rfl) H fun fU h H => ?_
         refine dw ?_
         refine nZ ?_
         exact Exists.intro (d21) (Eq.mp (by kernel_rfl) (And.intro (Eq.refl (gA (d21))) (And.intro (And.intro (Eq.refl (v5 : Value)) (And.intro (Eq.refl (bI : Value)) (And.intro (Eq.refl (ey : Value)) (And.intro (Eq.refl (a3 : Value)) trivial)))) H)))
     · refine qy (v := v20) (by kernel_rfl) H (fun H => ?_) (fun H => ?_)
       · refine sr ?_
         exact Exists.intro (d19) (Eq.mp (by kernel_rfl) (And.intro (Eq.refl (gA (d19))) (And.intro (And.intro (Eq.refl (v5 : Value)) (And.intro (Eq.refl (bI : Value)) (And.intro (Eq.refl (ey : Value)) (And.intro (Eq.refl (a3 : Value)) trivial)))) H)))
       · exact Exists.intro (d19) (Eq.mp (by kernel_rfl) (And.intro (Eq.refl (gA (d19))) (And.intro (And.intro (Eq.refl (v5 : Value)) trivial) H)))
 · refine ez ?_
   refine dv ?_
   refine aY (vs := [v1]) (by kernel_rfl) H fun v28 h H => ?_
   refine aY (vs := [v2]) (by kernel_rfl) H fun dF h H => ?_
   refine xn (vs := [v28, dF]) (by kernel_rfl) H (fun _ _ H => qx (P := PP) (w0 := w0) zP.results Q (([] : List Nat)) (by kernel_rfl) H) fun v30 h H => ?_
   refine dw ?_
   refine eA ?_
   refine mY ?_
   refine Jw bA (rs := ([] : List Nat)) _ _ _ _ _ (fv := v30) (by kernel_rfl) H (fun px _ _ H => qx (P := PP) (w0 := w0) zP.results Q (px :: ([] : List Nat)) (by kernel_rfl) H) (fun px h H => ?_) (fun px h H => ?_) (fun px => trivial) (fun qz Te qA Tn R h H => ?_)
   · refine nZ ?_
     exact Exists.intro (px :: ([] : List Nat)) (Eq.mp (by kernel_rfl) (And.intro (Eq.refl (gA (px :: ([] : List Nat)))) (And.intro (And.intro (Eq.refl (v1 : Value)) (And.intro (Eq.refl (v2 : Value)) (And.intro (Eq.refl (v5 : Value)) trivial))) H)))
   · exact False.elim H
   · obtain ⟨uL, iG, rfl, H⟩ := Jx H
     let E : Value → W := mz
     have H2 := Jy H
     refine ⟨H2.1, rfl, ?_⟩
     have H := H2.2
     refine ez ?_
     refine dv ?_
     refine fL (v := uL) (by kernel_rfl) ?_
     refine dw ?_
     refine eA ?_
     refine dv ?_
     refine fL (v := iG) (by kernel_rfl) ?_
     refine dw ?_
     refine Jz H (fun h H => ?_)
     refine mY ?_
     refine ez ?_
     refine dv ?_
     refine aY (vs := [v3]) (by kernel_rfl) H fun iF h H => ?_
     refine fL (v := uL) (by kernel_rfl) ?_
     refine aY (vs := [iF, uL]) (by kernel_rfl) H fun j4 h H => ?_
     refine aY (vs := [j4]) (by kernel_rfl) H fun v40 h H => ?_
     refine aY (vs := [v40]) (by kernel_rfl) H fun fV h H => ?_
     refine dw ?_
     refine eA ?_
     refine mY ?_
     refine abX bA (α := Unit) [(s3, v1), (s4, v2), (s7, v5), (s9, iG), (pz, fV)] (fun a => []) (fun σ => ()) (fun k a => Tl w0 E R fV iG v1 v2 v5 qz qA (k ()) ) (fun σ => trivial) (fun k_6 a6 σ h H => ?_) (x := ()) (by kernel_rfl) (Eq.mp (by kernel_rfl) (And.intro (Eq.refl (v1 : Value)) (And.intro (Eq.refl (v2 : Value)) (And.intro (Eq.refl (v5 : Value)) (And.intro (Eq.refl (iG : Value)) (And.intro (Eq.refl (fV : Value)) trivial)))))) H
     refine ez ?_
     refine dv ?_
     refine aY (vs := [fV]) (by kernel_rfl) H fun eL h H => ?_
     refine aY (vs := [eL]) (by kernel_rfl) H fun mw h H => ?_
     refine dw ?_
     refine eA ?_
     refine Tq (α := Unit) [(s3, v1), (s4, v2), (s7, v5), (s9, iG), (pz, fV)] (fun a => []) (fun σ => ()) (fun a => Eo w0 E R fV iG v1 v2 v5 (k_6 ()) ) (fun σ => trivial) (fun a7 σ h H => ?_) ?_
     · refine mY ?_
       refine ez ?_
       refine dv ?_
       refine aY (vs := [fV]) (by kernel_rfl) H fun iW h H => ?_
       refine aY (vs := [iW]) (by kernel_rfl) H fun v46 h H => ?_
       refine fL (v := v46) (by kernel_rfl) ?_
       refine dw ?_
       refine eA ?_
       refine ez ?_
       refine dv ?_
       refine fL (v := iG) (by kernel_rfl) ?_
       refine aY (vs := [iG, (vi 2)]) (by kernel_rfl) H fun eM h H => ?_
       refine fL (v := eM) (by kernel_rfl) ?_
       refine Tf (v := v46) (gv := eM) (by kernel_rfl) (by kernel_rfl) H fun fK h H => ?_
       refine n3 (vs := [v1]) (gv := eM) (by kernel_rfl) (by kernel_rfl) H fun v49 h H => ?_
       refine n3 (vs := [v49]) (gv := eM) (by kernel_rfl) (by kernel_rfl) H fun kZ h H => ?_
       refine n3 (vs := [v2]) (gv := eM) (by kernel_rfl) (by kernel_rfl) H fun v51 h H => ?_
       refine n3 (vs := [kZ, v51]) (gv := eM) (by kernel_rfl) (by kernel_rfl) H fun j6 h H => ?_
       refine n3 (vs := [j6]) (gv := eM) (by kernel_rfl) (by kernel_rfl) H fun v53 h H => ?_
       refine Tg (vs := [v53]) (gv := eM) (by kernel_rfl) (by kernel_rfl) H (fun _ _ H => False.elim H) fun pt h H => ?_
       refine n3 (vs := [fK, pt]) (gv := eM) (by kernel_rfl) (by kernel_rfl) H fun kY h H => ?_
       refine aY (vs := [eM, (.bool true), kY]) (by kernel_rfl) H fun n4 h H => ?_
       refine dw ?_
       refine eA ?_
       refine qy (v := n4) (by kernel_rfl) H (fun H => ?_) (fun H => ?_)
       · refine dv ?_
         refine aY (vs := [v5]) (by kernel_rfl) H fun ed h H => ?_
         refine fL (v := v46) (by kernel_rfl) ?_
         refine aY (vs := [ed, v46, (.bool true)]) (by kernel_rfl) H fun xp h H => ?_
         refine dw ?_
         refine nZ ?_
         exact Eq.mp (by kernel_rfl) (And.intro (Eq.refl (⟨[], .off⟩ : DS)) (And.intro (And.intro (Eq.refl (v1 : Value)) (And.intro (Eq.refl (v2 : Value)) (And.intro (Eq.refl (v5 : Value)) (And.intro (Eq.refl (iG : Value)) (And.intro (Eq.refl (fV : Value)) trivial))))) H))
       · refine sr ?_
         refine nZ ?_
         exact Eq.mp (by kernel_rfl) (And.intro (Eq.refl (⟨[], .off⟩ : DS)) (And.intro (And.intro (Eq.refl (v1 : Value)) (And.intro (Eq.refl (v2 : Value)) (And.intro (Eq.refl (v5 : Value)) (And.intro (Eq.refl (iG : Value)) (And.intro (Eq.refl (fV : Value)) trivial))))) H))
     · refine qy (v := mw) (by kernel_rfl) H (fun H => ?_) (fun H => ?_)
       · refine sr ?_
         exact Eq.mp (by kernel_rfl) (And.intro (Eq.refl (⟨[], .off⟩ : DS)) (And.intro (And.intro (Eq.refl (v1 : Value)) (And.intro (Eq.refl (v2 : Value)) (And.intro (Eq.refl (v5 : Value)) (And.intro (Eq.refl (iG : Value)) (And.intro (Eq.refl (fV : Value)) trivial))))) H))
       · exact Eq.mp (by kernel_rfl) (And.intro (Eq.refl ([] : List eB)) H)
def JL (w0 : World) (E R : Value → W) (y1 : Value) : W :=
 R y1
def JM (w0 : World) (E R : Value → W) (y5 : Value) (k3 : Value → Value → W) (y7 : Value) : W :=
 pr (.aL .add) [y5, (vi 1)] fun v8 =>
 k3 y7 v8
def JN (w0 : World) (E R : Value → W) (x0 y5 x1 y4 : Value) (k3 : Value → Value → W) : W :=
 pr (.cd 1) [x0, y5] fun v9 =>
 pr (.aI) [v9] fun v10 =>
 dy PP w0 [x1, v10] E fun v11 =>
 pr (.buildSlice 28 1 [cZ] [(0,1)]) [v11] fun v12 =>
 pr (.append 28 1 [cZ]) [y4, v12] fun b9 =>
 JM w0 E R y5 k3 b9
def Er (w0 : World) (E R : Value → W) (v2 x0 x1 : Value) (k3 : Value → Value → W) (y4 y5 : Value) : W :=
 pr (.aL .lss) [y5, v2] fun v6 =>
 br v6 (
 JN w0 E R x0 y5 x1 y4 k3) (
 JL w0 E R  y4)
def Tr (w0 : World) (E R : Value → W) (x0 x1 : Value) : W :=
 pr (.cx) [x0] fun v2 =>
 LP (α := Value × Value) (fun k a => Er w0 E R v2 x0 x1 (fun b0 b1 => k (b0, b1)) a.1 a.2) (cZ, (vi 0))
theorem abY {w0 : World} {h : AH} {Q : CR → AH → Prop} (x0 x1 : Value) (H : Tr w0 (fun v h => Q (.aN v) h) (fun v h => Q (.ret v) h) x0 x1 h) : WF PP w0 JO [x0, x1] h Q :=
 eJ bA e61 [[s5, jP]] (by kernel_rfl) (Eq.mp (by kernel_rfl) H)
def JP (w0 : World) (E R : Value → W) (v5 : Value) : W :=
 cl PP w0 JO [v5, (fc Em)] E fun v6 =>
 R v6
def Es (w0 : World) (E R : Value → W) (cM : Value) (la : Value → Value → W) (cg : Value) : W :=
 pr (.aL .sub) [cM, (vi 1)] fun eo =>
 la cg eo
def JQ (w0 : World) (E R : Value → W) (v1 cM v5 : Value) (la : Value → Value → W) (aT : Value) : W :=
 pr (.bF 7) [v1] fun cr =>
 cl PP w0 JK [cr, cM, v5] E fun eK =>
 pr (.xq) [eK] fun v20 =>
 pr (.cd 1) [v5, cM] fun v21 =>
 pr (.aI) [v21] fun fJ =>
 pr (.xq) [fJ] fun dQ =>
 pr (.aL .neq) [v20, dQ] fun v24 =>
 br v24 (
 pr (.cd 1) [v5, cM] fun fi =>
 pr (.store 1) [fi, eK] fun dc =>
 Es w0 E R cM la (.bool true)) (
 Es w0 E R cM la aT)
def Et (w0 : World) (E R : Value → W) (v1 v5 : Value) (k7 : Value → W) (la : Value → Value → W) (aT cM : Value) : W :=
 pr (.aL .geq) [cM, (vi 0)] fun fU =>
 br fU (
 JQ w0 E R v1 cM v5 la aT) (
 k7 aT)
def JR (w0 : World) (E R : Value → W) (v1 v5 : Value) (k7 : Value → W) : W :=
 pr (.fieldAddr 5) [v1] fun v9 =>
 pr (.aI) [v9] fun v10 =>
 pr (.cx) [v10] fun v11 =>
 pr (.aL .sub) [v11, (vi 1)] fun v12 =>
 LP (α := Value × Value) (fun k a => Et w0 E R v1 v5 k7 (fun b0 b1 => k (b0, b1)) a.1 a.2) ((.bool false), v12)
def Eu (w0 : World) (E R : Value → W) (v1 v5 : Value) (k7 : Value → W) (y8 : Value) : W :=
 br y8 (
 JR w0 E R v1 v5 k7) (
 JP w0 E R v5)
def JS (w0 : World) (E R : Value → W) (v1 : Value) : W :=
 pr (.fieldAddr 5) [v1] fun v2 =>
 pr (.aI) [v2] fun v3 =>
 pr (.cx) [v3] fun v4 =>
 pr (.mkSlice 102 1 [(.map none)]) [v4, v4] fun v5 =>
 LP (α := Value) (fun k a => Eu w0 E R v1 v5 k a) ((.bool true))
def Ts (w0 : World) (E R : Value → W) (x0 : Value) : W :=
 pr (.box 25) [x0] fun v1 =>
 pr (.bF 7) [v1] fun v28 =>
 cl PP w0 xk [v28] E fun dF =>
 pr (.eY) [dF] fun v30 =>
 br v30 (
 R cZ) (
 JS w0 E R v1)
theorem abZ {w0 : World} {h : AH} {Q : CR → AH → Prop} (x0 : Value) (H : Ts w0 (fun v h => Q (.aN v) h) (fun v h => Q (.ret v) h) x0 h) : WF PP w0 JT [x0] h Q :=
 eJ bA e18 [[s4], [s4, s5]] (by kernel_rfl) (Eq.mp (by kernel_rfl) H)
def JU (w0 : World) (E R : Value → W) (v1 : Value) : W :=
 pr (.build [(vi 0), (vi 0), (vi 0), (vi 0), (vi 0), (vi 0), (.bool false)] []) [] fun v2 =>
 pr (.store 7) [v1, v2] fun v3 =>
 ld (.bF 7) [v1] fun v4 =>
 R (.tuple ⟨[v4, (.bool false)]⟩)
def zQ (w0 : World) (E R : Value → W) (v1 x0 xr : Value) : W :=
 br xr (
 pr (.db [1, 1, 1]) [(vi 1), (vi 1), (vi 1)] fun hO =>
 pr (.db [1, 1]) [(vi 2), (vi 3)] fun j5 =>
 pr (.build [(vi 0), (vi 0), (vi 0), (vi 0), (vi 0), (vi 0), (.bool false)] [(0,3), (3,1), (4,2)]) [hO, (vi 1), j5] fun iV =>
 pr (.store 7) [v1, iV] fun pq =>
 ld (.bF 7) [v1] fun v37 =>
 R (.tuple ⟨[v37, (.bool true)]⟩)) (
 pr (.aL .eql) [x0, (vi 17)] fun iF =>
 br iF (
 pr (.db [1, 1, 1]) [(vi 1), (vi 2), (vi 5)] fun j4 =>
 pr (.db [1, 1]) [(vi 2), (vi 0)] fun v40 =>
 pr (.db [3, 1, 2, 1]) [j4, (vi 1), v40, (.bool true)] fun fV =>
 pr (.store 7) [v1, fV] fun k9 =>
 ld (.bF 7) [v1] fun eL =>
 R (.tuple ⟨[eL, (.bool true)]⟩)) (
 pr (.aL .eql) [x0, (vi 18)] fun mw =>
 br mw (
 pr (.db [1, 1, 1]) [(vi 5), (vi 1), (vi 0)] fun iW =>
 pr (.db [1, 1]) [(vi 2), (vi 0)] fun v46 =>
 pr (.build [(vi 0), (vi 0), (vi 0), (vi 0), (vi 0), (vi 0), (.bool false)] [(0,3), (4,2)]) [iW, v46] fun eM =>
 pr (.store 7) [v1, eM] fun fK =>
 ld (.bF 7) [v1] fun v49 =>
 R (.tuple ⟨[v49, (.bool true)]⟩)) (
 pr (.aL .eql) [x0, (vi 19)] fun kZ =>
 br kZ (
 pr (.db [1, 1, 1]) [(vi 6), (vi 1), (vi 0)] fun v51 =>
 pr (.db [1, 1]) [(vi 2), (vi 0)] fun j6 =>
 pr (.build [(vi 0), (vi 0), (vi 0), (vi 0), (vi 0), (vi 0), (.bool false)] [(0,3), (4,2)]) [v51, j6] fun v53 =>
 pr (.store 7) [v1, v53] fun pt =>
 ld (.bF 7) [v1] fun kY =>
 R (.tuple ⟨[kY, (.bool true)]⟩)) (
 pr (.aL .eql) [x0, (vi 20)] fun n4 =>
 br n4 (
 pr (.db [1, 1, 1]) [(vi 7), (vi 2), (vi 8)] fun ed =>
 pr (.db [1, 1]) [(vi 2), (vi 0)] fun xp =>
 pr (.db [3, 1, 2, 1]) [ed, (vi 1), xp, (.bool true)] fun v59 =>
 pr (.store 7) [v1, v59] fun xu =>
 ld (.bF 7) [v1] fun uN =>
 R (.tuple ⟨[uN, (.bool true)]⟩)) (
 pr (.aL .eql) [x0, (vi 21)] fun uO =>
 br uO (
 pr (.db [1, 1, 1]) [(vi 1), (vi 9), (vi 4)] fun zR =>
 pr (.build [(vi 0), (vi 0), (vi 0), (vi 0), (vi 0), (vi 0), (.bool false)] [(0,3), (3,1), (6,1)]) [zR, (vi 1), (.bool true)] fun uP =>
 pr (.store 7) [v1, uP] fun xv =>
 ld (.bF 7) [v1] fun uQ =>
 R (.tuple ⟨[uQ, (.bool true)]⟩)) (
 pr (.aL .eql) [x0, (vi 22)] fun JV =>
 br JV (
 pr (.db [1, 1, 1]) [(vi 1), (vi 10), (vi 0)] fun zS =>
 pr (.db [1, 1]) [(vi 1), (vi 0)] fun v69 =>
 pr (.build [(vi 0), (vi 0), (vi 0), (vi 0), (vi 0), (vi 0), (.bool false)] [(0,3), (4,2), (6,1)]) [zS, v69, (.bool true)] fun v70 =>
 pr (.store 7) [v1, v70] fun Tt =>
 ld (.bF 7) [v1] fun v72 =>
 R (.tuple ⟨[v72, (.bool true)]⟩)) (
 pr (.aL .eql) [x0, (vi 23)] fun pA =>
 br pA (
 pr (.db [1, 1, 1]) [(vi 2), (vi 0), (vi 0)] fun JW =>
 pr (.db [1, 1]) [(vi 1), (vi 0)] fun v75 =>
 pr (.build [(vi 0), (vi 0), (vi 0), (vi 0), (vi 0), (vi 0), (.bool false)] [(0,3), (4,2), (6,1)]) [JW, v75, (.bool true)] fun v76 =>
 pr (.store 7) [v1, v76] fun Tu =>
 ld (.bF 7) [v1] fun JX =>
 R (.tuple ⟨[JX, (.bool true)]⟩)) (
 pr (.aL .eql) [x0, (vi 24)] fun JY =>
 br JY (
 pr (.db [1, 1, 1]) [(vi 11), (vi 0), (vi 0)] fun v80 =>
 pr (.build [(vi 0), (vi 0), (vi 0), (vi 0), (vi 0), (vi 0), (.bool false)] [(0,3)]) [v80] fun mZ =>
 pr (.store 7) [v1, mZ] fun Tv =>
 ld (.bF 7) [v1] fun JZ =>
 R (.tuple ⟨[JZ, (.bool true)]⟩)) (
 pr (.aL .eql) [x0, (vi 25)] fun J0 =>
 br J0 (
 pr (.db [1, 1, 1]) [(vi 1), (vi 11), (vi 0)] fun v85 =>
 pr (.db [1, 1]) [(vi 1), (vi 0)] fun zT =>
 pr (.build [(vi 0), (vi 0), (vi 0), (vi 0), (vi 0), (vi 0), (.bool false)] [(0,3), (4,2)]) [v85, zT] fun v87 =>
 pr (.store 7) [v1, v87] fun v88 =>
 ld (.bF 7) [v1] fun J2 =>
 R (.tuple ⟨[J2, (.bool true)]⟩)) (
 pr (.aL .eql) [x0, (vi 26)] fun J3 =>
 br J3 (
 pr (.db [1, 1, 1]) [(vi 12), (vi 0), (vi 0)] fun v91 =>
 pr (.build [(vi 0), (vi 0), (vi 0), (vi 0), (vi 0), (vi 0), (.bool false)] [(0,3), (6,1)]) [v91, (.bool true)] fun J4 =>
 pr (.store 7) [v1, J4] fun v93 =>
 ld (.bF 7) [v1] fun J5 =>
 R (.tuple ⟨[J5, (.bool true)]⟩)) (
 pr (.aL .eql) [x0, (vi 27)] fun J6 =>
 br J6 (
 pr (.build [(vi 0), (vi 0), (vi 0), (vi 0), (vi 0), (vi 0), (.bool false)] [(6,1)]) [(.bool true)] fun J7 =>
 pr (.store 7) [v1, J7] fun Tw =>
 ld (.bF 7) [v1] fun J8 =>
 R (.tuple ⟨[J8, (.bool true)]⟩)) (
 pr (.aL .eql) [x0, (vi 28)] fun J9 =>
 br J9 (
 pr (.db [1, 1, 1]) [(vi 2), (vi 0), (vi 0)] fun Ka =>
 pr (.db [1, 1]) [(vi 1), (vi 0)] fun ab0 =>
 pr (.build [(vi 0), (vi 0), (vi 0), (vi 0), (vi 0), (vi 0), (.bool false)] [(0,3), (4,2)]) [Ka, ab0] fun ab1 =>
 pr (.store 7) [v1, ab1] fun Tx =>
 ld (.bF 7) [v1] fun ab2 =>
 R (.tuple ⟨[ab2, (.bool true)]⟩)) (
 pr (.aL .eql) [x0, (vi 29)] fun v105 =>
 br v105 (
 pr (.db [1, 1, 1]) [(vi 1), (vi 0), (vi 0)] fun Kb =>
 pr (.db [1, 1]) [(vi 1), (vi 0)] fun v107 =>
 pr (.build [(vi 0), (vi 0), (vi 0), (vi 0), (vi 0), (vi 0), (.bool false)] [(0,3), (4,2)]) [Kb, v107] fun Kc =>
 pr (.store 7) [v1, Kc] fun v109 =>
 ld (.bF 7) [v1] fun Kd =>
 R (.tuple ⟨[Kd, (.bool true)]⟩)) (
 pr (.aL .eql) [x0, (vi 30)] fun Ke =>
 br Ke (
 pr (.db [1, 1, 1]) [(vi 1), (vi 0), (vi 0)] fun Kf =>
 pr (.db [1, 1]) [(vi 1), (vi 0)] fun Kg =>
 pr (.build [(vi 0), (vi 0), (vi 0), (vi 0), (vi 0), (vi 0), (.bool false)] [(0,3), (4,2), (6,1)]) [Kf, Kg, (.bool true)] fun Kh =>
 pr (.store 7) [v1, Kh] fun Ty =>
 ld (.bF 7) [v1] fun Ki =>
 R (.tuple ⟨[Ki, (.bool true)]⟩)) (
 pr (.aL .eql) [x0, (vi 31)] fun v117 =>
 br v117 (
 pr (.build [(vi 0), (vi 0), (vi 0), (vi 0), (vi 0), (vi 0), (.bool false)] []) [] fun Kj =>
 pr (.store 7) [v1, Kj] fun Tz =>
 ld (.bF 7) [v1] fun Kk =>
 R (.tuple ⟨[Kk, (.bool true)]⟩)) (
 pr (.aL .eql) [x0, (vi 32)] fun Kl =>
 br Kl (
 pr (.db [1, 1, 1]) [(vi 1), (vi 11), (vi 0)] fun Km =>
 pr (.db [1, 1]) [(vi 1), (vi 0)] fun Kn =>
 pr (.build [(vi 0), (vi 0), (vi 0), (vi 0), (vi 0), (vi 0), (.bool false)] [(0,3), (4,2), (6,1)]) [Km, Kn, (.bool true)] fun v124 =>
 pr (.store 7) [v1, v124] fun TA =>
 ld (.bF 7) [v1] fun Ko =>
 R (.tuple ⟨[Ko, (.bool true)]⟩)) (
 pr (.aL .eql) [x0, (vi 33)] fun v127 =>
 br v127 (
 pr (.db [1, 1, 1]) [(vi 1), (vi 13), (vi 0)] fun Kp =>
 pr (.build [(vi 0), (vi 0), (vi 0), (vi 0), (vi 0), (vi 0), (.bool false)] [(0,3), (3,1)]) [Kp, (vi 1)] fun Kq =>
 pr (.store 7) [v1, Kq] fun v130 =>
 ld (.bF 7) [v1] fun v131 =>
 R (.tuple ⟨[v131, (.bool true)]⟩)) (
 pr (.aL .eql) [x0, (vi 34)] fun Kr =>
 br Kr (
 pr (.db [1, 1, 1]) [(vi 13), (vi 1), (vi 0)] fun Ks =>
 pr (.db [1, 1]) [(vi 2), (vi 0)] fun Kt =>
 pr (.build [(vi 0), (vi 0), (vi 0), (vi 0), (vi 0), (vi 0), (.bool false)] [(0,3), (4,2)]) [Ks, Kt] fun Ku =>
 pr (.store 7) [v1, Ku] fun TB =>
 ld (.bF 7) [v1] fun pB =>
 R (.tuple ⟨[pB, (.bool true)]⟩)) (
 JU w0 E R v1)))))))))))))))))))
def uR (w0 : World) (E R : Value → W) (v1 x0 xw : Value) : W :=
 br xw (
 pr (.db [1, 1, 1]) [(vi 1), (vi 1), (vi 1)] fun fU =>
 pr (.db [1, 1]) [(vi 2), (vi 3)] fun v28 =>
 pr (.db [3, 1, 2, 1]) [fU, (vi 1), v28, (.bool true)] fun dF =>
 pr (.store 7) [v1, dF] fun v30 =>
 ld (.bF 7) [v1] fun v31 =>
 R (.tuple ⟨[v31, (.bool true)]⟩)) (
 pr (.aL .eql) [x0, (vi 12)] fun v138 =>
 br v138 (
 zQ w0 E R v1 x0 v138) (
 pr (.aL .eql) [x0, (vi 13)] fun v139 =>
 br v139 (
 zQ w0 E R v1 x0 v139) (
 pr (.aL .eql) [x0, (vi 14)] fun Kv =>
 zQ w0 E R v1 x0 Kv)))
def xx (w0 : World) (E R : Value → W) (v1 x0 xy : Value) : W :=
 br xy (
 pr (.db [1, 1, 1]) [(vi 1), (vi 1), (vi 0)] fun v21 =>
 pr (.db [1, 1]) [(vi 2), (vi 0)] fun fJ =>
 pr (.build [(vi 0), (vi 0), (vi 0), (vi 0), (vi 0), (vi 0), (.bool false)] [(0,3), (3,1), (4,2)]) [v21, (vi 1), fJ] fun dQ =>
 pr (.store 7) [v1, dQ] fun v24 =>
 ld (.bF 7) [v1] fun fi =>
 R (.tuple ⟨[fi, (.bool true)]⟩)) (
 pr (.aL .eql) [x0, (vi 6)] fun v141 =>
 br v141 (
 uR w0 E R v1 x0 v141) (
 pr (.aL .eql) [x0, (vi 7)] fun Ev =>
 br Ev (
 uR w0 E R v1 x0 Ev) (
 pr (.aL .eql) [x0, (vi 8)] fun v143 =>
 br v143 (
 uR w0 E R v1 x0 v143) (
 pr (.aL .eql) [x0, (vi 9)] fun Ew =>
 br Ew (
 uR w0 E R v1 x0 Ew) (
 pr (.aL .eql) [x0, (vi 10)] fun v145 =>
 uR w0 E R v1 x0 v145)))))
def Ex (w0 : World) (E R : Value → W) (v1 x0 cM : Value) : W :=
 br cM (
 pr (.db [1, 1, 1]) [(vi 1), (vi 0), (vi 0)] fun ey =>
 pr (.build [(vi 0), (vi 0), (vi 0), (vi 0), (vi 0), (vi 0), (.bool false)] [(0,3), (3,1)]) [ey, (vi 1)] fun eo =>
 pr (.store 7) [v1, eo] fun cr =>
 ld (.bF 7) [v1] fun eK =>
 R (.tuple ⟨[eK, (.bool true)]⟩)) (
 pr (.aL .eql) [x0, (vi 4)] fun v146 =>
 br v146 (
 xx w0 E R v1 x0 v146) (
 pr (.aL .eql) [x0, (vi 11)] fun Ey =>
 br Ey (
 xx w0 E R v1 x0 Ey) (
 pr (.aL .eql) [x0, (vi 15)] fun v148 =>
 br v148 (
 xx w0 E R v1 x0 v148) (
 pr (.aL .eql) [x0, (vi 16)] fun Kw =>
 xx w0 E R v1 x0 Kw))))
def TC (w0 : World) (E R : Value → W) (x0 : Value) : W :=
 pr (.alloc 148 [(vi 0), (vi 0), (vi 0), (vi 0), (vi 0), (vi 0), (.bool false)]) [] fun v1 =>
 pr (.aL .eql) [x0, (vi 1)] fun v5 =>
 br v5 (
 pr (.db [1, 1, 1]) [(vi 1), (vi 3), (vi 0)] fun v6 =>
 pr (.build [(vi 0), (vi 0), (vi 0), (vi 0), (vi 0), (vi 0), (.bool false)] [(0,3), (3,1)]) [v6, (vi 1)] fun v7 =>
 pr (.store 7) [v1, v7] fun v8 =>
 ld (.bF 7) [v1] fun v9 =>
 R (.tuple ⟨[v9, (.bool true)]⟩)) (
 pr (.aL .eql) [x0, (vi 2)] fun v10 =>
 br v10 (
 pr (.db [1, 1, 1]) [(vi 1), (vi 4), (vi 0)] fun v11 =>
 pr (.build [(vi 0), (vi 0), (vi 0), (vi 0), (vi 0), (vi 0), (.bool false)] [(0,3), (3,1)]) [v11, (vi 1)] fun v12 =>
 pr (.store 7) [v1, v12] fun b9 =>
 ld (.bF 7) [v1] fun cy =>
 R (.tuple ⟨[cy, (.bool true)]⟩)) (
 pr (.aL .eql) [x0, (vi 3)] fun Ez =>
 br Ez (
 Ex w0 E R v1 x0 Ez) (
 pr (.aL .eql) [x0, (vi 5)] fun xz =>
 Ex w0 E R v1 x0 xz)))
theorem ab3 {w0 : World} {h : AH} {Q : CR → AH → Prop} (x0 : Value) (H : TC w0 (fun v h => Q (.aN v) h) (fun v h => Q (.ret v) h) x0 h) : WF PP w0 Kx [x0] h Q :=
 eJ bA e88 [] (by kernel_rfl) (Eq.mp (by kernel_rfl) H)
def TD (w0 : World) (E R : Value → W) (x0 : Value) : W :=
 pr (.box 67) [x0] fun v1 =>
 pr (.fieldAddr 0) [v1] fun v2 =>
 pr (.aI) [v2] fun v3 =>
 cl PP w0 Kx [v3] E fun v4 =>
 pr (.extract 0) [v4] fun v5 =>
 pr (.extract 1) [v4] fun v6 =>
 pr (.alloc 148 [(vi 0), (vi 0), (vi 0), (vi 0), (vi 0), (vi 0), (.bool false)]) [] fun v7 =>
 pr (.store 7) [v7, v5] fun v8 =>
 pr (.fieldAddr 6) [v7] fun v9 =>
 pr (.aI) [v9] fun v10 =>
 R v10
theorem ab4 {w0 : World} {h : AH} {Q : CR → AH → Prop} (x0 : Value) (H : TD w0 (fun v h => Q (.aN v) h) (fun v h => Q (.ret v) h) x0 h) : WF PP w0 Ky [x0] h Q :=
 eJ bA e43 [] (by kernel_rfl) (Eq.mp (by kernel_rfl) H)
def EA (w0 : World) (E R : Value → W) (v8 v3 : Value) (d16 : List Nat) : W :=
 pr (.aI) [v8] fun eo =>
 pr (.store 1) [v3, eo] fun cr =>
 jo (d16) (
 ld (.aI) [v3] fun eK =>
 R eK)
def EB (w0 : World) (E R : Value → W) (v8 cK v11 : Value) (n6 : LO) (n7 : Nat) : W :=
 pr (.aI) [v8] fun fK =>
 pr (.cd 1) [fK, cK] fun v49 =>
 pr (.aI) [v49] fun kZ =>
 pr (.eY) [kZ] fun v51 =>
 br v51 (
 pr (.aI) [v8] fun j6 =>
 pr (.cd 1) [j6, cK] fun v53 =>
 pr (.store 1) [v53, (.bool true)] fun pt =>
 pr (.aI) [v11] fun kY =>
 pr (.buildSlice 3 1 [(vi 0)] [(0,1)]) [cK] fun n4 =>
 pr (.append 3 1 [(vi 0)]) [kY, n4] fun ed =>
 pr (.store 1) [v11, ed] fun xp =>
 jq n6 n7 .ready none true R) (
 jq n6 n7 .ready none true R)
def EC (w0 : World) (E R : Value → W) (v2 dF v3 v8 v11 : Value) (n6 : LO) (n7 : Nat) (cK mA : Value) : W :=
 qw n6 n7 (
 my n6 n7 (
 pr (.aI) [v2] fun v59 =>
 pr (.aI) [dF] fun xu =>
 dy PP w0 [v59, xu, cK, mA] mz fun uN =>
 pr (.eY) [uN] fun uO =>
 br uO (
 pr (.store 1) [v3, cZ] fun zR =>
 jq n6 n7 .done (some .ret) false R) (
 EB w0 E R v8 cK v11 n6 n7)))
def ED (w0 : World) (E R : Value → W) (v11 v1 v2 v3 v8 : Value) (qB : List Nat → W) (d22 : List Nat) : W :=
 pr (.aI) [v11] fun dQ =>
 pr (.aI) [v11] fun v24 =>
 pr (.cx) [v24] fun fi =>
 pr (.aL .sub) [fi, (vi 1)] fun dc =>
 pr (.cd 1) [dQ, dc] fun fU =>
 pr (.aI) [fU] fun v28 =>
 pr (.alloc 3 [(vi 0)]) [] fun dF =>
 pr (.store 1) [dF, v28] fun v30 =>
 pr (.aI) [v11] fun v31 =>
 pr (.aI) [v11] fun iv =>
 pr (.cx) [iv] fun hO =>
 pr (.aL .sub) [hO, (vi 1)] fun j5 =>
 pr (.slice 1 false true false) [v31, j5] fun iV =>
 pr (.store 1) [v11, iV] fun pq =>
 pr (.bF 7) [v1] fun v37 =>
 pr (.aI) [dF] fun iF =>
 cl PP w0 zJ [v37, iF] (cE (d22) E) fun j4 =>
 xm PP w0 j4 (fun n6 n7 TE R => zL (fun cK mA => EC w0 mz R v2 dF v3 v8 v11 n6 n7 cK mA) TE) (fun mB => cE (mB :: d22) E) (fun mB z43 => sk z43 (
 qB (mB :: d22)) (
 jo (mB :: d22) (
 ld (.aI) [v3] fun eM =>
 R eM)) [])
def zU (w0 : World) (E R : Value → W) (v11 v1 v2 v3 v8 : Value) (qB : List Nat → W) (d21 : List Nat) : W :=
 pr (.aI) [v11] fun uP =>
 pr (.cx) [uP] fun xv =>
 pr (.aL .gtr) [xv, (vi 0)] fun uQ =>
 br uQ (
 ED w0 E R v11 v1 v2 v3 v8 qB (d21)) (
 EA w0 E R v8 v3 (d21))
def TF (w0 : World) (E R : Value → W) (x0 x1 : Value) : W :=
 pr (.box 25) [x0] fun v1 =>
 pr (.box 100) [x1] fun v2 =>
 pr (.alloc 39 [cZ]) [] fun v3 =>
 pr (.fieldAddr 5) [v1] fun v4 =>
 pr (.aI) [v4] fun v5 =>
 pr (.cx) [v5] fun v6 =>
 pr (.mkSlice 4 1 [(.bool false)]) [v6, v6] fun v7 =>
 pr (.alloc 39 [cZ]) [] fun v8 =>
 pr (.store 1) [v8, v7] fun v9 =>
 pr (.buildSlice 3 1 [(vi 0)] [(0,1)]) [(vi 0)] fun v10 =>
 pr (.alloc 28 [cZ]) [] fun v11 =>
 pr (.store 1) [v11, v10] fun v12 =>
 pr (.aI) [v8] fun b9 =>
 pr (.cd 1) [b9, (vi 0)] fun cy =>
 pr (.store 1) [cy, (.bool true)] fun bI =>
 LP (α := (Unit) × List Nat) (fun k a => zU w0 E R v11 v1 v2 v3 v8 (fun  q => k ((), q)) a.2) ((), ([] : List Nat))
theorem ab5 {w0 : World} {h : AH} {Q : CR → AH → Prop} (x0 : Value) (x1 : Value) (H : TF w0 (fun v h => Q (.aN v) h) (fun v h => Q (.ret v) h) x0 x1 h) : WF PP w0 Kz [x0, x1] h Q := by
 let E : Value → W := fun v h => Q (.aN v) h
 let R : Value → W := fun v h => Q (.ret v) h
 refine Ej bA e78 ?_
 refine ez ?_
 refine dv ?_
 refine aY (vs := [x0]) (by kernel_rfl) H fun v1 h H => ?_
 refine aY (vs := [x1]) (by kernel_rfl) H fun v2 h H => ?_
 refine aY (vs := []) (by kernel_rfl) H fun v3 h H => ?_
 refine dw ?_
 refine eA ?_
 refine ez ?_
 refine dv ?_
 refine aY (vs := [v1]) (by kernel_rfl) H fun v4 h H => ?_
 refine aY (vs := [v4]) (by kernel_rfl) H fun v5 h H => ?_
 refine aY (vs := [v5]) (by kernel_rfl) H fun v6 h H => ?_
 refine aY (vs := [v6, v6]) (by kernel_rfl) H fun v7 h H => ?_
 refine aY (vs := []) (by kernel_rfl) H fun v8 h H => ?_
 refine aY (vs := [v8, v7]) (by kernel_rfl) H fun v9 h H => ?_
 refine dw ?_
 refine eA ?_
 refine ez ?_
 refine dv ?_
 refine aY (vs := [(vi 0)]) (by kernel_rfl) H fun v10 h H => ?_
 refine aY (vs := []) (by kernel_rfl) H fun v11 h H => ?_
 refine aY (vs := [v11, v10]) (by kernel_rfl) H fun v12 h H => ?_
 refine dw ?_
 refine eA ?_
 refine ez ?_
 refine dv ?_
 refine aY (vs := [v8]) (by kernel_rfl) H fun b9 h H => ?_
 refine aY (vs := [b9, (vi 0)]) (by kernel_rfl) H fun cy h H => ?_
 refine aY (vs := [cy, (.bool true)]) (by kernel_rfl) H fun bI h H => ?_
 refine dw ?_
 refine eA ?_
 refine sn (rs := ([] : List Nat)) (α := Unit) [(s4, v3), (s5, v8)] (fun a => []) (fun σ => ()) (fun a q => EA w0 E R v8 v3  q) (fun σ => trivial) (fun a1 d16 σ h H => ?_) ?_
 · refine ez ?_
   refine dv ?_
   refine aY (vs := [v8]) (by kernel_rfl) H fun eo h H => ?_
   refine aY (vs := [v3, eo]) (by kernel_rfl) H fun cr h H => ?_
   refine dw ?_
   refine eA ?_
   exact zM (P := PP) (w0 := w0) zV.results Q (d16) (by kernel_rfl) (Eq.mp (by kernel_rfl) H)
 · refine mY ?_
   refine To bA (rs := ([] : List Nat)) (α := Unit) [(s2, v1), (s3, v2), (s4, v3), (s5, v8), (s6, v11)] (fun a => []) (fun σ => ()) (fun k a => zU w0 E R v11 v1 v2 v3 v8 (fun  q => k ((), q)) a.2) (fun σ => trivial) (fun k_2 a2 d21 σ h H => ?_) (x := ()) (by kernel_rfl) (Eq.mp (by kernel_rfl) (And.intro (Eq.refl (v1 : Value)) (And.intro (Eq.refl (v2 : Value)) (And.intro (Eq.refl (v3 : Value)) (And.intro (Eq.refl (v8 : Value)) (And.intro (Eq.refl (v11 : Value)) trivial)))))) H
   refine sn (rs := d21) (α := Unit) [(s2, v1), (s3, v2), (s4, v3), (s5, v8), (s6, v11)] (fun a => []) (fun σ => ()) (fun a q => ED w0 E R v11 v1 v2 v3 v8 (fun  q => k_2 ((), q))  q) (fun σ => trivial) (fun a3 d22 σ h H => ?_) ?_
   · refine mY ?_
     refine ez ?_
     refine dv ?_
     refine aY (vs := [v11]) (by kernel_rfl) H fun dQ h H => ?_
     refine aY (vs := [v11]) (by kernel_rfl) H fun v24 h H => ?_
     refine aY (vs := [v24]) (by kernel_rfl) H fun fi h H => ?_
     refine aY (vs := [fi, (vi 1)]) (by kernel_rfl) H fun dc h H => ?_
     refine aY (vs := [dQ, dc]) (by kernel_rfl) H fun fU h H => ?_
     refine aY (vs := [fU]) (by kernel_rfl) H fun v28 h H => ?_
     refine aY (vs := []) (by kernel_rfl) H fun dF h H => ?_
     refine aY (vs := [dF, v28]) (by kernel_rfl) H fun v30 h H => ?_
     refine dw ?_
     refine eA ?_
     refine ez ?_
     refine dv ?_
     refine aY (vs := [v11]) (by kernel_rfl) H fun v31 h H => ?_
     refine aY (vs := [v11]) (by kernel_rfl) H fun iv h H => ?_
     refine aY (vs := [iv]) (by kernel_rfl) H fun hO h H => ?_
     refine aY (vs := [hO, (vi 1)]) (by kernel_rfl) H fun j5 h H => ?_
     refine aY (vs := [v31, j5]) (by kernel_rfl) H fun iV h H => ?_
     refine aY (vs := [v11, iV]) (by kernel_rfl) H fun pq h H => ?_
     refine dw ?_
     refine eA ?_
     refine ez ?_
     refine dv ?_
     refine aY (vs := [v1]) (by kernel_rfl) H fun v37 h H => ?_
     refine aY (vs := [dF]) (by kernel_rfl) H fun iF h H => ?_
     refine xn (vs := [v37, iF]) (by kernel_rfl) H (fun _ _ H => qx (P := PP) (w0 := w0) zV.results Q (d22) (by kernel_rfl) H) fun j4 h H => ?_
     refine dw ?_
     refine eA ?_
     refine mY ?_
     refine Jw bA (rs := d22) _ _ _ _ _ (fv := j4) (by kernel_rfl) H (fun mB _ _ H => qx (P := PP) (w0 := w0) zV.results Q (mB :: d22) (by kernel_rfl) H) (fun mB h H => ?_) (fun mB h H => ?_) (fun mB => trivial) (fun n6 Te n7 TE R h H => ?_)
     · refine nZ ?_
       refine nZ ?_
       exact Exists.intro (mB :: d22) (Eq.mp (by kernel_rfl) (And.intro (Eq.refl (gA (mB :: d22))) (And.intro (And.intro (Eq.refl (v1 : Value)) (And.intro (Eq.refl (v2 : Value)) (And.intro (Eq.refl (v3 : Value)) (And.intro (Eq.refl (v8 : Value)) (And.intro (Eq.refl (v11 : Value)) trivial))))) H)))
     · exact zM (P := PP) (w0 := w0) zV.results Q (mB :: d22) (by kernel_rfl) (Eq.mp (by kernel_rfl) H)
     · obtain ⟨cK, mA, rfl, H⟩ := Jx H
       let E : Value → W := mz
       have H2 := Jy H
       refine ⟨H2.1, rfl, ?_⟩
       have H := H2.2
       refine ez ?_
       refine dv ?_
       refine fL (v := cK) (by kernel_rfl) ?_
       refine dw ?_
       refine eA ?_
       refine dv ?_
       refine fL (v := mA) (by kernel_rfl) ?_
       refine dw ?_
       refine Jz H (fun h H => ?_)
       refine mY ?_
       refine Tq (α := Unit) [(s5, v8), (s6, v11), (s8, cK)] (fun a => []) (fun σ => ()) (fun a => EB w0 E R v8 cK v11 n6 n7 ) (fun σ => trivial) (fun a4 σ h H => ?_) ?_
       · refine ez ?_
         refine dv ?_
         refine aY (vs := [v8]) (by kernel_rfl) H fun fK h H => ?_
         refine fL (v := cK) (by kernel_rfl) ?_
         refine aY (vs := [fK, cK]) (by kernel_rfl) H fun v49 h H => ?_
         refine aY (vs := [v49]) (by kernel_rfl) H fun kZ h H => ?_
         refine aY (vs := [kZ]) (by kernel_rfl) H fun v51 h H => ?_
         refine dw ?_
         refine eA ?_
         refine qy (v := v51) (by kernel_rfl) H (fun H => ?_) (fun H => ?_)
         · refine ez ?_
           refine dv ?_
           refine aY (vs := [v8]) (by kernel_rfl) H fun j6 h H => ?_
           refine fL (v := cK) (by kernel_rfl) ?_
           refine aY (vs := [j6, cK]) (by kernel_rfl) H fun v53 h H => ?_
           refine aY (vs := [v53, (.bool true)]) (by kernel_rfl) H fun pt h H => ?_
           refine dw ?_
           refine eA ?_
           refine dv ?_
           refine aY (vs := [v11]) (by kernel_rfl) H fun kY h H => ?_
           refine fL (v := cK) (by kernel_rfl) ?_
           refine aY (vs := [cK]) (by kernel_rfl) H fun n4 h H => ?_
           refine aY (vs := [kY, n4]) (by kernel_rfl) H fun ed h H => ?_
           refine aY (vs := [v11, ed]) (by kernel_rfl) H fun xp h H => ?_
           refine dw ?_
           refine nZ ?_
           exact Eq.mp (by kernel_rfl) (And.intro (Eq.refl ([] : List eB)) H)
         · refine sr ?_
           refine nZ ?_
           exact Eq.mp (by kernel_rfl) (And.intro (Eq.refl ([] : List eB)) H)
       · refine ez ?_
         refine dv ?_
         refine aY (vs := [v2]) (by kernel_rfl) H fun v59 h H => ?_
         refine aY (vs := [dF]) (by kernel_rfl) H fun xu h H => ?_
         refine fL (v := cK) (by kernel_rfl) ?_
         refine fL (v := mA) (by kernel_rfl) ?_
         refine ab6 (vs := [v59, xu, cK, mA]) (by kernel_rfl) H (fun _ _ H => False.elim H) fun uN h H => ?_
         refine aY (vs := [uN]) (by kernel_rfl) H fun uO h H => ?_
         refine dw ?_
         refine eA ?_
         refine qy (v := uO) (by kernel_rfl) H (fun H => ?_) (fun H => ?_)
         · refine ez ?_
           refine dv ?_
           refine aY (vs := [v3, cZ]) (by kernel_rfl) H fun zR h H => ?_
           refine dw ?_
           refine eA ?_
           exact Eq.mp (by kernel_rfl) (And.intro (Eq.refl ([] : List eB)) H)
         · refine sr ?_
           exact Eq.mp (by kernel_rfl) (And.intro (Eq.refl (⟨[], .off⟩ : DS)) (And.intro (And.intro (Eq.refl (v8 : Value)) (And.intro (Eq.refl (v11 : Value)) (And.intro (Eq.refl (cK : Value)) trivial))) H))
   · refine ez ?_
     refine dv ?_
     refine aY (vs := [v11]) (by kernel_rfl) H fun uP h H => ?_
     refine aY (vs := [uP]) (by kernel_rfl) H fun xv h H => ?_
     refine aY (vs := [xv, (vi 0)]) (by kernel_rfl) H fun uQ h H => ?_
     refine dw ?_
     refine eA ?_
     refine qy (v := uQ) (by kernel_rfl) H (fun H => ?_) (fun H => ?_)
     · refine sr ?_
       exact Exists.intro (d21) (Eq.mp (by kernel_rfl) (And.intro (Eq.refl (gA (d21))) (And.intro (And.intro (Eq.refl (v1 : Value)) (And.intro (Eq.refl (v2 : Value)) (And.intro (Eq.refl (v3 : Value)) (And.intro (Eq.refl (v8 : Value)) (And.intro (Eq.refl (v11 : Value)) trivial))))) H)))
     · exact Exists.intro (d21) (Eq.mp (by kernel_rfl) (And.intro (Eq.refl (gA (d21))) (And.intro (And.intro (Eq.refl (v3 : Value)) (And.intro (Eq.refl (v8 : Value)) trivial)) H)))
def TG (w0 : World) (E R : Value → W) (x0 x1 x2 : Value) : W :=
 R (.bool true)
theorem ab7 {w0 : World} {h : AH} {Q : CR → AH → Prop} (x0 x1 x2 : Value) (H : TG w0 (fun v h => Q (.aN v) h) (fun v h => Q (.ret v) h) x0 x1 x2 h) : WF PP w0 EE [x0, x1, x2] h Q :=
 eJ bA e79 [] (by kernel_rfl) (Eq.mp (by kernel_rfl) H)
def KA (w0 : World) (E R : Value → W) (v1 : Value) : W :=
 pr (.bF 7) [v1] fun v2 =>
 cl PP w0 Kz [v2, (fc EE)] E fun v3 =>
 R v3
def TH (w0 : World) (E R : Value → W) (x0 : Value) : W :=
 pr (.box 25) [x0] fun v1 =>
 pr (.bF 7) [v1] fun v4 =>
 cl PP w0 xk [v4] E fun v5 =>
 pr (.eY) [v5] fun v6 =>
 br v6 (
 R cZ) (
 KA w0 E R v1)
theorem ab8 {w0 : World} {h : AH} {Q : CR → AH → Prop} (x0 : Value) (H : TH w0 (fun v h => Q (.aN v) h) (fun v h => Q (.ret v) h) x0 h) : WF PP w0 KB [x0] h Q :=
 eJ bA e28 [] (by kernel_rfl) (Eq.mp (by kernel_rfl) H)
def KC (w0 : World) (E R : Value → W) (v1 x1 : Value) : W :=
 pr (.bF 7) [v1] fun v2 =>
 cl PP w0 D9 [v2, x1] E fun v3 =>
 R v3
def KD (w0 : World) (E R : Value → W) (v1 x1 cy : Value) : W :=
 br cy (
 R (vi (-1))) (
 KC w0 E R v1 x1)
def TI (w0 : World) (E R : Value → W) (x0 x1 : Value) : W :=
 pr (.box 25) [x0] fun v1 =>
 pr (.bF 7) [v1] fun v4 =>
 cl PP w0 xk [v4] E fun v5 =>
 pr (.eY) [v5] fun v6 =>
 gd v6 false (fun k => k x1) fun v7 =>
 gd v6 false (fun k => pr (.fieldAddr 5) [v1] k) fun v8 =>
 gd v6 false (fun k => pr (.aI) [v8] k) fun v9 =>
 gd v6 false (fun k => pr (.cx) [v9] k) fun v10 =>
 gd v6 false (fun k => pr (.aL .sub) [v10, (vi 1)] k) fun v11 =>
 gd v6 false (fun k => cl PP w0 qu [v7, (vi 0), v11] E k) fun v12 =>
 gd v6 false (fun k => pr (.eY) [v12] k) fun b9 =>
 pr (.pick) [v6, (.bool true), b9] fun cy =>
 KD w0 E R v1 x1 cy
theorem ab9 {w0 : World} {h : AH} {Q : CR → AH → Prop} (x0 x1 : Value) (H : TI w0 (fun v h => Q (.aN v) h) (fun v h => Q (.ret v) h) x0 x1 h) : WF PP w0 KE [x0, x1] h Q :=
 eJ bA e40 [] (by kernel_rfl) (Eq.mp (by kernel_rfl) H)
def KF (w0 : World) (E R : Value → W) (v1 cr : Value) : W :=
 gd cr true (fun k => pr (.fieldAddr 5) [v1] k) fun eK =>
 gd cr true (fun k => pr (.aI) [eK] k) fun v20 =>
 gd cr true (fun k => pr (.cx) [v20] k) fun v21 =>
 gd cr true (fun k => pr (.aL .gtr) [v21, (vi 0)] k) fun fJ =>
 pr (.pick) [cr, fJ, (.bool false)] fun dQ =>
 R dQ
def KG (w0 : World) (E R : Value → W) (v1 v10 : Value) : W :=
 gd v10 true (fun k => pr (.bF 7) [v1] k) fun v11 =>
 gd v10 true (fun k => pr (.fieldAddr 5) [v1] k) fun v12 =>
 gd v10 true (fun k => pr (.aI) [v12] k) fun b9 =>
 gd v10 true (fun k => pr (.cx) [b9] k) fun cy =>
 gd v10 true (fun k => cl PP w0 KB [v11] E k) fun bI =>
 gk v10 true (fun k => ck (.cx) [b9] cy k) (
 gk v10 true (fun k => ck (.aI) [v12] b9 k) (
 gk v10 true (fun k => ck (.fieldAddr 5) [v1] v12 k) (
 gd v10 true (fun k => pr (.cx) [bI] k) fun ey =>
 gd v10 true (fun k => pr (.aL .eql) [ey, cy] k) fun eo =>
 pr (.pick) [v10, eo, (.bool false)] fun cr =>
 KF w0 E R v1 cr)))
def TJ (w0 : World) (E R : Value → W) (x0 : Value) : W :=
 pr (.box 25) [x0] fun v1 =>
 pr (.fieldAddr 5) [v1] fun v2 =>
 pr (.aI) [v2] fun v3 =>
 pr (.cx) [v3] fun v4 =>
 pr (.aL .leq) [v4, (vi 40)] fun v5 =>
 gd v5 true (fun k => pr (.fieldAddr 6) [v1] k) fun v6 =>
 gd v5 true (fun k => pr (.aI) [v6] k) fun v7 =>
 gd v5 true (fun k => pr (.cx) [v7] k) fun v8 =>
 gd v5 true (fun k => pr (.aL .leq) [v8, (vi 8)] k) fun v9 =>
 pr (.pick) [v5, v9, (.bool false)] fun v10 =>
 KG w0 E R v1 v10
theorem aca {w0 : World} {h : AH} {Q : CR → AH → Prop} (x0 : Value) (H : TJ w0 (fun v h => Q (.aN v) h) (fun v h => Q (.ret v) h) x0 h) : WF PP w0 KH [x0] h Q :=
 eJ bA e42 [] (by kernel_rfl) (Eq.mp (by kernel_rfl) H)
def KI (w0 : World) (E R : Value → W)  : W :=
 R (.bool false)
def KJ (w0 : World) (E R : Value → W) (y2 : Value) (k1 : Value → W) : W :=
 pr (.aL .add) [y2, (vi 1)] fun v3 =>
 k1 v3
def KK (w0 : World) (E R : Value → W) (x0 y2 x1 : Value) (k1 : Value → W) : W :=
 pr (.cd 1) [x0, y2] fun v4 =>
 pr (.aI) [v4] fun v5 =>
 pr (.aL .eql) [v5, x1] fun v6 =>
 br v6 (
 R (.bool true)) (
 KJ w0 E R y2 k1)
def EF (w0 : World) (E R : Value → W) (x0 x1 : Value) (k1 : Value → W) (y2 : Value) : W :=
 pr (.cx) [x0] fun v7 =>
 pr (.aL .lss) [y2, v7] fun v8 =>
 br v8 (
 KK w0 E R x0 y2 x1 k1) (
 KI w0 E R )
def TK (w0 : World) (E R : Value → W) (x0 x1 : Value) : W :=
 LP (α := Value) (fun k a => EF w0 E R x0 x1 k a) ((vi 0))
theorem acb {w0 : World} {h : AH} {Q : CR → AH → Prop} (x0 x1 : Value) (H : TK w0 (fun v h => Q (.aN v) h) (fun v h => Q (.ret v) h) x0 x1 h) : WF PP w0 uS [x0, x1] h Q :=
 eJ bA e44 [[s5]] (by kernel_rfl) (Eq.mp (by kernel_rfl) H)
def KL (w0 : World) (E R : Value → W)  : W :=
 R (.bool false)
def KM (w0 : World) (E R : Value → W) (y7 : Value) (k6 : Value → W) : W :=
 pr (.aL .add) [y7, (vi 1)] fun v8 =>
 k6 v8
def KN (w0 : World) (E R : Value → W) (y7 : Value) (k6 : Value → W) (iW : Value) : W :=
 br iW (
 R (.bool true)) (
 KM w0 E R y7 k6)
def KO (w0 : World) (E R : Value → W) (v3 y7 x1 x3 v1 x2 : Value) (k6 : Value → W) (v28 : Value) : W :=
 pr (.cd 1) [v3, y7] fun dF =>
 pr (.aI) [dF] fun v30 =>
 pr (.cd 1) [x1, v30] fun v31 =>
 pr (.aI) [v31] fun iv =>
 cl PP w0 uS [iv, x3] E fun hO =>
 gd hO true (fun k => pr (.fieldAddr 5) [v1] k) fun j5 =>
 gd hO true (fun k => pr (.aI) [j5] k) fun iV =>
 gd hO true (fun k => k x2) fun pq =>
 gd hO true (fun k => pr (.cd 4) [iV, pq] k) fun v37 =>
 gd hO true (fun k => pr (.bF 4) [v37] k) fun iF =>
 gd hO true (fun k => cl PP w0 En [iF] E k) fun j4 =>
 gd hO true (fun k => k x3) fun v40 =>
 gd hO true (fun k => pr (.aL .neq) [j4, v40] k) fun fV =>
 gd hO true (fun k => k fV) fun k9 =>
 gd k9 false (fun k => k v28) fun eL =>
 gd hO true (fun k => pr (.pick) [k9, (.bool true), eL] k) fun mw =>
 pr (.pick) [hO, mw, (.bool false)] fun iW =>
 KN w0 E R y7 k6 iW
def KP (w0 : World) (E R : Value → W) (v1 x2 v3 y7 x1 x3 : Value) (k6 : Value → W) (v21 : Value) : W :=
 gd v21 true (fun k => pr (.fieldAddr 5) [v1] k) fun fJ =>
 gd v21 true (fun k => pr (.aI) [fJ] k) fun dQ =>
 gd v21 true (fun k => k x2) fun v24 =>
 gd v21 true (fun k => pr (.cd 4) [dQ, v24] k) fun fi =>
 gd v21 true (fun k => pr (.bF 4) [fi] k) fun dc =>
 gd v21 true (fun k => cl PP w0 Ky [dc] E k) fun fU =>
 pr (.pick) [v21, fU, (.bool false)] fun v28 =>
 KO w0 E R v3 y7 x1 x3 v1 x2 k6 v28
def KQ (w0 : World) (E R : Value → W) (v5 v1 v3 y7 x2 x1 x3 : Value) (k6 : Value → W) : W :=
 pr (.aL .geq) [v5, (vi 0)] fun v9 =>
 gd v9 true (fun k => pr (.fieldAddr 6) [v1] k) fun v10 =>
 gd v9 true (fun k => pr (.aI) [v10] k) fun v11 =>
 gd v9 true (fun k => k v5) fun v12 =>
 gd v9 true (fun k => pr (.cd 3) [v11, v12] k) fun b9 =>
 gd v9 true (fun k => pr (.fieldAddr 2) [b9] k) fun cy =>
 gd v9 true (fun k => pr (.aI) [cy] k) fun bI =>
 gd v9 true (fun k => k v3) fun ey =>
 gd v9 true (fun k => k y7) fun eo =>
 gd v9 true (fun k => pr (.cd 1) [ey, eo] k) fun cr =>
 gd v9 true (fun k => pr (.aI) [cr] k) fun eK =>
 gd v9 true (fun k => pr (.aL .eql) [bI, eK] k) fun v20 =>
 pr (.pick) [v9, v20, (.bool false)] fun v21 =>
 KP w0 E R v1 x2 v3 y7 x1 x3 k6 v21
def EG (w0 : World) (E R : Value → W) (v3 v5 v1 x2 x1 x3 : Value) (k6 : Value → W) (y7 : Value) : W :=
 pr (.cx) [v3] fun v46 =>
 pr (.aL .lss) [y7, v46] fun eM =>
 br eM (
 KQ w0 E R v5 v1 v3 y7 x2 x1 x3 k6) (
 KL w0 E R )
def KR (w0 : World) (E R : Value → W) (v1 x2 x1 x3 : Value) : W :=
 pr (.bF 7) [v1] fun v2 =>
 cl PP w0 Jv [v2, x2] E fun v3 =>
 pr (.bF 7) [v1] fun v4 =>
 cl PP w0 KE [v4, x2] E fun v5 =>
 LP (α := Value) (fun k a => EG w0 E R v3 v5 v1 x2 x1 x3 k a) ((vi 0))
def TL (w0 : World) (E R : Value → W) (x0 x1 x2 x3 : Value) : W :=
 pr (.box 25) [x0] fun v1 =>
 pr (.fieldAddr 5) [v1] fun fK =>
 pr (.aI) [fK] fun v49 =>
 pr (.cd 4) [v49, x2] fun kZ =>
 pr (.bF 4) [kZ] fun v51 =>
 cl PP w0 xo [v51] E fun j6 =>
 cl PP w0 uS [j6, x3] E fun v53 =>
 br v53 (
 R (.bool true)) (
 KR w0 E R v1 x2 x1 x3)
theorem acd {w0 : World} {h : AH} {Q : CR → AH → Prop} (x0 x1 x2 x3 : Value) (H : TL w0 (fun v h => Q (.aN v) h) (fun v h => Q (.ret v) h) x0 x1 x2 x3 h) : WF PP w0 EH [x0, x1, x2, x3] h Q :=
 eJ bA e45 [[sv]] (by kernel_rfl) (Eq.mp (by kernel_rfl) H)
def KT (w0 : World) (E R : Value → W)  : W :=
 R (.bool true)
def KU (w0 : World) (E R : Value → W) (y3 : Value) (k2 : Value → W) : W :=
 pr (.aL .add) [y3, (vi 1)] fun v4 =>
 k2 v4
def KW (w0 : World) (E R : Value → W) (dz : Value) (jr : Value → W) : W :=
 pr (.aL .add) [dz, (vi 1)] fun v12 =>
 jr v12
def KX (w0 : World) (E R : Value → W) (dz : Value) (jr : Value → W) (dQ : Value) : W :=
 br dQ (
 R (.bool false)) (
 KW w0 E R dz jr)
def KY (w0 : World) (E R : Value → W) (v9 dz v1 : Value) (jr : Value → W) : W :=
 pr (.cd 1) [v9, dz] fun b9 =>
 pr (.aI) [b9] fun cy =>
 pr (.aL .lss) [cy, (vi 0)] fun bI =>
 gd bI false (fun k => k v9) fun ey =>
 gd bI false (fun k => k dz) fun eo =>
 gd bI false (fun k => pr (.cd 1) [ey, eo] k) fun cr =>
 gd bI false (fun k => pr (.aI) [cr] k) fun eK =>
 gd bI false (fun k => pr (.fieldAddr 3) [v1] k) fun v20 =>
 gd bI false (fun k => pr (.aI) [v20] k) fun v21 =>
 gd bI false (fun k => pr (.aL .geq) [eK, v21] k) fun fJ =>
 pr (.pick) [bI, (.bool true), fJ] fun dQ =>
 KX w0 E R dz jr dQ
def EI (w0 : World) (E R : Value → W) (v9 v1 y3 : Value) (k2 jr : Value → W) (dz : Value) : W :=
 pr (.cx) [v9] fun v24 =>
 pr (.aL .lss) [dz, v24] fun fi =>
 br fi (
 KY w0 E R v9 dz v1 jr) (
 KU w0 E R y3 k2)
def KZ (w0 : World) (E R : Value → W) (v1 y3 : Value) (k2 : Value → W) : W :=
 pr (.fieldAddr 5) [v1] fun v5 =>
 pr (.aI) [v5] fun v6 =>
 pr (.cd 4) [v6, y3] fun v7 =>
 pr (.bF 4) [v7] fun v8 =>
 cl PP w0 xo [v8] E fun v9 =>
 LP (α := Value) (fun k a => EI w0 E R v9 v1 y3 k2 k a) ((vi 0))
def EJ (w0 : World) (E R : Value → W) (v1 : Value) (k2 : Value → W) (y3 : Value) : W :=
 pr (.fieldAddr 5) [v1] fun dc =>
 pr (.aI) [dc] fun fU =>
 pr (.cx) [fU] fun v28 =>
 pr (.aL .lss) [y3, v28] fun dF =>
 br dF (
 KZ w0 E R v1 y3 k2) (
 KT w0 E R )
def TM (w0 : World) (E R : Value → W) (x0 : Value) : W :=
 pr (.box 25) [x0] fun v1 =>
 LP (α := Value) (fun k a => EJ w0 E R v1 k a) ((vi 0))
theorem ace {w0 : World} {h : AH} {Q : CR → AH → Prop} (x0 : Value) (H : TM w0 (fun v h => Q (.aN v) h) (fun v h => Q (.ret v) h) x0 h) : WF PP w0 K3 [x0] h Q :=
 eJ bA e46 [[s3], [s5]] (by kernel_rfl) (Eq.mp (by kernel_rfl) H)
def K4 (w0 : World) (E R : Value → W) (v2 : Value) : W :=
 R v2
def K5 (w0 : World) (E R : Value → W) (y6 : Value) (k5 : Value → W) : W :=
 pr (.aL .add) [y6, (vi 1)] fun v7 =>
 k5 v7
def K6 (w0 : World) (E R : Value → W) (y9 : Value) (k8 : Value → W) : W :=
 pr (.aL .add) [y9, (vi 1)] fun v10 =>
 k8 v10
def K7 (w0 : World) (E R : Value → W) (y9 : Value) (k8 : Value → W) (eL : Value) : W :=
 br eL (
 R (.bool false)) (
 K6 w0 E R y9 k8)
def K8 (w0 : World) (E R : Value → W) (v1 y9 : Value) (k8 : Value → W) (v40 : Value) : W :=
 gd v40 true (fun k => pr (.bF 7) [v1] k) fun fV =>
 gd v40 true (fun k => cl PP w0 K3 [fV] E k) fun k9 =>
 pr (.pick) [v40, k9, (.bool false)] fun eL =>
 K7 w0 E R y9 k8 eL
def K9 (w0 : World) (E R : Value → W) (x1 y6 v4 y9 v1 : Value) (k8 : Value → W) (dc : Value) : W :=
 gd dc true (fun k => k x1) fun fU =>
 gd dc true (fun k => k y6) fun v28 =>
 gd dc true (fun k => pr (.cd 1) [fU, v28] k) fun dF =>
 gd dc true (fun k => pr (.aI) [dF] k) fun v30 =>
 gd dc true (fun k => k v4) fun v31 =>
 gd dc true (fun k => k y6) fun iv =>
 gd dc true (fun k => pr (.cd 1) [v31, iv] k) fun hO =>
 gd dc true (fun k => pr (.aI) [hO] k) fun j5 =>
 gd dc true (fun k => k y9) fun iV =>
 gd dc true (fun k => pr (.cd 1) [j5, iV] k) fun pq =>
 gd dc true (fun k => pr (.aI) [pq] k) fun v37 =>
 gd dc true (fun k => cl PP w0 uS [v30, v37] E k) fun iF =>
 gd dc true (fun k => pr (.eY) [iF] k) fun j4 =>
 pr (.pick) [dc, j4, (.bool false)] fun v40 =>
 K8 w0 E R v1 y9 k8 v40
def La (w0 : World) (E R : Value → W) (v4 y6 y9 v1 x1 : Value) (k8 : Value → W) : W :=
 pr (.cd 1) [v4, y6] fun v11 =>
 pr (.aI) [v11] fun v12 =>
 pr (.cd 1) [v12, y9] fun b9 =>
 pr (.aI) [b9] fun cy =>
 pr (.aL .geq) [cy, (vi 0)] fun bI =>
 gd bI true (fun k => k v4) fun ey =>
 gd bI true (fun k => k y6) fun eo =>
 gd bI true (fun k => pr (.cd 1) [ey, eo] k) fun cr =>
 gd bI true (fun k => pr (.aI) [cr] k) fun eK =>
 gd bI true (fun k => k y9) fun v20 =>
 gd bI true (fun k => pr (.cd 1) [eK, v20] k) fun v21 =>
 gd bI true (fun k => pr (.aI) [v21] k) fun fJ =>
 gd bI true (fun k => pr (.fieldAddr 3) [v1] k) fun dQ =>
 gd bI true (fun k => pr (.aI) [dQ] k) fun v24 =>
 gd bI true (fun k => pr (.aL .lss) [fJ, v24] k) fun fi =>
 pr (.pick) [bI, fi, (.bool false)] fun dc =>
 K9 w0 E R x1 y6 v4 y9 v1 k8 dc
def EK (w0 : World) (E R : Value → W) (v4 y6 v1 x1 : Value) (k5 k8 : Value → W) (y9 : Value) : W :=
 pr (.cd 1) [v4, y6] fun mw =>
 pr (.aI) [mw] fun iW =>
 pr (.cx) [iW] fun v46 =>
 pr (.aL .lss) [y9, v46] fun eM =>
 br eM (
 La w0 E R v4 y6 y9 v1 x1 k8) (
 K5 w0 E R y6 k5)
def Lb (w0 : World) (E R : Value → W) (v4 y6 v1 x1 : Value) (k5 : Value → W) : W :=
 LP (α := Value) (fun k a => EK w0 E R v4 y6 v1 x1 k5 k a) ((vi 0))
def EL (w0 : World) (E R : Value → W) (v4 v1 x1 v2 : Value) (k5 : Value → W) (y6 : Value) : W :=
 pr (.cx) [v4] fun fK =>
 pr (.aL .lss) [y6, fK] fun v49 =>
 br v49 (
 Lb w0 E R v4 y6 v1 x1 k5) (
 K4 w0 E R v2)
def Lc (w0 : World) (E R : Value → W) (v4 v1 x1 v2 : Value) : W :=
 LP (α := Value) (fun k a => EL w0 E R v4 v1 x1 v2 k a) ((vi 0))
def Ld (w0 : World) (E R : Value → W) (bw : Value) (ee : Value → W) : W :=
 pr (.aL .add) [bw, (vi 1)] fun j6 =>
 ee j6
def Le (w0 : World) (E R : Value → W) (eZ : Value) (lL : Value → W) : W :=
 pr (.aL .add) [eZ, (vi 1)] fun xu =>
 lL xu
def Lf (w0 : World) (E R : Value → W) (x1 bw ed eZ v2 : Value) (lL : Value → W) : W :=
 pr (.cd 1) [x1, bw] fun uN =>
 pr (.aI) [uN] fun uO =>
 pr (.cd 1) [ed, eZ] fun zR =>
 pr (.aI) [zR] fun uP =>
 cl PP w0 uS [uO, uP] E fun xv =>
 pr (.eY) [xv] fun uQ =>
 br uQ (
 R v2) (
 Le w0 E R eZ lL)
def EM (w0 : World) (E R : Value → W) (ed x1 bw v2 : Value) (ee lL : Value → W) (eZ : Value) : W :=
 pr (.cx) [ed] fun JV =>
 pr (.aL .lss) [eZ, JV] fun zS =>
 br zS (
 Lf w0 E R x1 bw ed eZ v2 lL) (
 Ld w0 E R bw ee)
def Lg (w0 : World) (E R : Value → W) (v1 bw x1 v2 : Value) (ee : Value → W) : W :=
 pr (.fieldAddr 5) [v1] fun v53 =>
 pr (.aI) [v53] fun pt =>
 pr (.cd 4) [pt, bw] fun kY =>
 pr (.bF 4) [kY] fun n4 =>
 cl PP w0 xo [n4] E fun ed =>
 LP (α := Value) (fun k a => EM w0 E R ed x1 bw v2 ee k a) ((vi 0))
def Lh (w0 : World) (E R : Value → W) (dA : Value) (js : Value → W) : W :=
 pr (.aL .add) [dA, (vi 1)] fun Tt =>
 js Tt
def Li (w0 : World) (E R : Value → W) (v2 dA : Value) (js : Value → W) (mZ : Value) : W :=
 br mZ (
 R v2) (
 Lh w0 E R dA js)
def Lj (w0 : World) (E R : Value → W) (v1 x1 bw dA v2 : Value) (js : Value → W) : W :=
 pr (.bF 7) [v1] fun v72 =>
 cl PP w0 EH [v72, x1, bw, dA] E fun pA =>
 gd pA true (fun k => k x1) fun JW =>
 gd pA true (fun k => k bw) fun v75 =>
 gd pA true (fun k => pr (.cd 1) [JW, v75] k) fun v76 =>
 gd pA true (fun k => pr (.aI) [v76] k) fun Tu =>
 gd pA true (fun k => k dA) fun JX =>
 gd pA true (fun k => cl PP w0 uS [Tu, JX] E k) fun JY =>
 gd pA true (fun k => pr (.eY) [JY] k) fun v80 =>
 pr (.pick) [pA, v80, (.bool false)] fun mZ =>
 Li w0 E R v2 dA js mZ
def EN (w0 : World) (E R : Value → W) (v1 x1 bw v2 : Value) (ee js : Value → W) (dA : Value) : W :=
 pr (.fieldAddr 3) [v1] fun Tv =>
 pr (.aI) [Tv] fun JZ =>
 pr (.aL .lss) [dA, JZ] fun J0 =>
 br J0 (
 Lj w0 E R v1 x1 bw dA v2 js) (
 Lg w0 E R v1 bw x1 v2 ee)
def Lk (w0 : World) (E R : Value → W) (v1 x1 bw v2 : Value) (ee : Value → W) : W :=
 LP (α := Value) (fun k a => EN w0 E R v1 x1 bw v2 ee k a) ((vi 0))
def EO (w0 : World) (E R : Value → W) (x1 v1 v2 v4 : Value) (ee : Value → W) (bw : Value) : W :=
 pr (.cx) [x1] fun v85 =>
 pr (.aL .lss) [bw, v85] fun zT =>
 br zT (
 Lk w0 E R v1 x1 bw v2 ee) (
 Lc w0 E R v4 v1 x1 v2)
def Ll (w0 : World) (E R : Value → W) (x1 v1 v2 v4 : Value) : W :=
 LP (α := Value) (fun k a => EO w0 E R x1 v1 v2 v4 k a) ((vi 0))
def Lm (w0 : World) (E R : Value → W) (fa : Value) (lM : Value → W) : W :=
 pr (.aL .add) [fa, (vi 1)] fun J2 =>
 lM J2
def Ln (w0 : World) (E R : Value → W) (x1 fa v2 : Value) (lM : Value → W) : W :=
 pr (.cd 1) [x1, fa] fun J3 =>
 pr (.aI) [J3] fun v91 =>
 pr (.cx) [v91] fun J4 =>
 pr (.aL .gtr) [J4, (vi 60)] fun v93 =>
 br v93 (
 R v2) (
 Lm w0 E R fa lM)
def EP (w0 : World) (E R : Value → W) (x1 v2 v1 v4 : Value) (lM : Value → W) (fa : Value) : W :=
 pr (.cx) [x1] fun J5 =>
 pr (.aL .lss) [fa, J5] fun J6 =>
 br J6 (
 Ln w0 E R x1 fa v2 lM) (
 Ll w0 E R x1 v1 v2 v4)
def Lo (w0 : World) (E R : Value → W) (x1 v2 v1 v4 : Value) : W :=
 LP (α := Value) (fun k a => EP w0 E R x1 v2 v1 v4 k a) ((vi 0))
def Lp (w0 : World) (E R : Value → W) (x1 v1 v2 v4 : Value) : W :=
 pr (.cx) [x1] fun J7 =>
 pr (.fieldAddr 5) [v1] fun Tw =>
 pr (.aI) [Tw] fun J8 =>
 pr (.cx) [J8] fun J9 =>
 pr (.aL .neq) [J7, J9] fun Ka =>
 br Ka (
 R v2) (
 Lo w0 E R x1 v2 v1 v4)
def Lq (w0 : World) (E R : Value → W) (bS : Value) (iw : Value → W) : W :=
 pr (.aL .add) [bS, (vi 1)] fun Tx =>
 iw Tx
def Lr (w0 : World) (E R : Value → W) (cv : Value) (gL : Value → W) : W :=
 pr (.aL .add) [cv, (vi 1)] fun Kb =>
 gL Kb
def Ls (w0 : World) (E R : Value → W) (cv : Value) (gL : Value → W) (pB : Value) : W :=
 br pB (
 R (.bool false)) (
 Lr w0 E R cv gL)
def Lt (w0 : World) (E R : Value → W) (v1 v4 bS cv : Value) (gL : Value → W) (v124 : Value) : W :=
 gd v124 false (fun k => pr (.bF 7) [v1] k) fun TA =>
 gd v124 false (fun k => k v4) fun Ko =>
 gd v124 false (fun k => k bS) fun v127 =>
 gd v124 false (fun k => k v4) fun Kp =>
 gd v124 false (fun k => k bS) fun Kq =>
 gd v124 false (fun k => pr (.cd 1) [Kp, Kq] k) fun v130 =>
 gd v124 false (fun k => pr (.aI) [v130] k) fun v131 =>
 gd v124 false (fun k => k cv) fun Kr =>
 gd v124 false (fun k => pr (.cd 1) [v131, Kr] k) fun Ks =>
 gd v124 false (fun k => pr (.aI) [Ks] k) fun Kt =>
 gd v124 false (fun k => cl PP w0 EH [TA, Ko, v127, Kt] E k) fun Ku =>
 gd v124 false (fun k => pr (.eY) [Ku] k) fun TB =>
 pr (.pick) [v124, (.bool true), TB] fun pB =>
 Ls w0 E R cv gL pB
def Lu (w0 : World) (E R : Value → W) (cv v4 bS v1 : Value) (gL : Value → W) : W :=
 pr (.aL .gtr) [cv, (vi 0)] fun v107 =>
 gd v107 true (fun k => k v4) fun Kc =>
 gd v107 true (fun k => k bS) fun v109 =>
 gd v107 true (fun k => pr (.cd 1) [Kc, v109] k) fun Kd =>
 gd v107 true (fun k => pr (.aI) [Kd] k) fun Ke =>
 gd v107 true (fun k => k cv) fun Kf =>
 gd v107 true (fun k => pr (.cd 1) [Ke, Kf] k) fun Kg =>
 gd v107 true (fun k => pr (.aI) [Kg] k) fun Kh =>
 gd v107 true (fun k => k v4) fun Ty =>
 gd v107 true (fun k => k bS) fun Ki =>
 gd v107 true (fun k => pr (.cd 1) [Ty, Ki] k) fun v117 =>
 gd v107 true (fun k => pr (.aI) [v117] k) fun Kj =>
 gd v107 true (fun k => k cv) fun Tz =>
 gd v107 true (fun k => pr (.aL .sub) [Tz, (vi 1)] k) fun Kk =>
 gd v107 true (fun k => pr (.cd 1) [Kj, Kk] k) fun Kl =>
 gd v107 true (fun k => pr (.aI) [Kl] k) fun Km =>
 gd v107 true (fun k => pr (.aL .leq) [Kh, Km] k) fun Kn =>
 pr (.pick) [v107, Kn, (.bool false)] fun v124 =>
 Lt w0 E R v1 v4 bS cv gL v124
def ES (w0 : World) (E R : Value → W) (v4 bS v1 : Value) (iw gL : Value → W) (cv : Value) : W :=
 pr (.cd 1) [v4, bS] fun v138 =>
 pr (.aI) [v138] fun v139 =>
 pr (.cx) [v139] fun Kv =>
 pr (.aL .lss) [cv, Kv] fun v141 =>
 br v141 (
 Lu w0 E R cv v4 bS v1 gL) (
 Lq w0 E R bS iw)
def Lv (w0 : World) (E R : Value → W) (v4 bS v1 : Value) (iw : Value → W) : W :=
 LP (α := Value) (fun k a => ES w0 E R v4 bS v1 iw k a) ((vi 0))
def ET (w0 : World) (E R : Value → W) (v4 v1 x1 v2 : Value) (iw : Value → W) (bS : Value) : W :=
 pr (.cx) [v4] fun Ev =>
 pr (.aL .lss) [bS, Ev] fun v143 =>
 br v143 (
 Lv w0 E R v4 bS v1 iw) (
 Lp w0 E R x1 v1 v2 v4)
def Lw (w0 : World) (E R : Value → W) (v4 v1 x1 v2 : Value) : W :=
 LP (α := Value) (fun k a => ET w0 E R v4 v1 x1 v2 k a) ((vi 0))
def Lx (w0 : World) (E R : Value → W) (v1 x1 v2 : Value) : W :=
 pr (.bF 7) [v1] fun v3 =>
 cl PP w0 JT [v3] E fun v4 =>
 pr (.cx) [v4] fun Ew =>
 pr (.fieldAddr 5) [v1] fun v145 =>
 pr (.aI) [v145] fun v146 =>
 pr (.cx) [v146] fun Ey =>
 pr (.aL .neq) [Ew, Ey] fun v148 =>
 br v148 (
 R (.bool false)) (
 Lw w0 E R v4 v1 x1 v2)
def Ly (w0 : World) (E R : Value → W) (v2 v1 x1 sw : Value) : W :=
 br sw (
 R v2) (
 Lx w0 E R v1 x1 v2)
def TN (w0 : World) (E R : Value → W) (x0 x1 : Value) : W :=
 pr (.box 25) [x0] fun v1 =>
 cl PP w0 Lz [] E fun v2 =>
 pr (.bF 7) [v1] fun Kw =>
 cl PP w0 KH [Kw] E fun Ez =>
 pr (.eY) [Ez] fun xz =>
 gd xz false (fun k => k x1) fun v152 =>
 gd xz false (fun k => pr (.cx) [v152] k) fun acf =>
 gd xz false (fun k => pr (.aL .gtr) [acf, (vi 60)] k) fun v154 =>
 pr (.pick) [xz, (.bool true), v154] fun sw =>
 Ly w0 E R v2 v1 x1 sw
theorem acg {w0 : World} {h : AH} {Q : CR → AH → Prop} (x0 x1 : Value) (H : TN w0 (fun v h => Q (.aN v) h) (fun v h => Q (.ret v) h) x0 x1 h) : WF PP w0 TO [x0, x1] h Q :=
 eJ bA zW [[s7], [s8], [s9], [jP], [sv], [qC], [qD], [qE]] (by kernel_rfl) (Eq.mp (by kernel_rfl) H)
end
end Go.Ve.T
namespace Go.Ve
open Go.RowKit
open Classical
noncomputable section
structure Sub (g h : AH) : Prop where
 nx : g.nx ≤ h.nx
 get : ∀ f x, g.ob.get f = some x → h.ob.get f = some x
theorem Sub.refl (g : AH) : Sub g g := ⟨Nat.le_refl _, fun _ _ h => h⟩
theorem Sub.trans {a b c : AH} (h1 : Sub a b) (h2 : Sub b c) : Sub a c := ⟨Nat.le_trans h1.nx h2.nx, fun f x h => h2.get f x (h1.get f x h)⟩
theorem Sub.rd {g h : AH} (S : Sub g h) {b o : Nat} {v : Value} (hr : g.rd b o = some v) : h.rd b o = some v := by
 unfold AH.rd at hr ⊢
 cases hg : g.ob.get b with
 | none => rw [hg] at hr; cases hr
 | some x => rw [S.get b x hg]; rw [hg] at hr; exact hr
theorem Sub.aZ {g h : AH} (S : Sub g h) {b o : Nat} {l : List Value} (hr : g.aZ b o l) : h.aZ b o l := fun i v hv => S.rd (hr i v hv)
def aJ {α β : Type} (R : α → β → Prop) (l : List α) (m : List β) : Prop := l.length = m.length ∧ ∀ (i : Nat) x y, l[i]? = some x → m[i]? = some y → R x y
section
variable {α β : Type} {R R' : α → β → Prop} {l l2 : List α} {m m2 : List β}
theorem aJ.nil : aJ R [] [] := ⟨rfl, fun i x y h => by simp at h⟩
theorem aJ.mono (H : aJ R l m) (hm : ∀ x y, R x y → R' x y) : aJ R' l m := ⟨H.1, fun i x y h1 h2 => hm x y (H.2 i x y h1 h2)⟩
theorem aJ.get (H : aJ R l m) {i : Nat} {y : β} (hy : m[i]? = some y) : ∃ x, l[i]? = some x ∧ R x y := by
 have hi : i < m.length := (List.getElem?_eq_some_iff.1 hy).1
 have hl : i < l.length := by rw [H.1]; exact hi
 exact ⟨l[i], List.getElem?_eq_getElem hl, H.2 i _ _ (List.getElem?_eq_getElem hl) hy⟩
theorem aJ.append (H : aJ R l m) (H2 : aJ R l2 m2) : aJ R (l ++ l2) (m ++ m2) := by
 refine ⟨by simp [H.1, H2.1], fun i x y hx hy => ?_⟩
 by_cases hi : i < l.length
 · rw [List.getElem?_append_left hi] at hx
   rw [List.getElem?_append_left (by rw [← H.1]; exact hi)] at hy
   exact H.2 i x y hx hy
 · rw [List.getElem?_append_right (by omega)] at hx
   rw [List.getElem?_append_right (by rw [← H.1]; omega), ← H.1] at hy
   exact H2.2 _ x y hx hy
theorem aJ.one {x : α} {y : β} (h : R x y) : aJ R [x] [y] := ⟨rfl, fun i a b ha hb => by
 cases i with
 | zero => simp at ha hb; subst ha; subst hb; exact h
 | succ i => simp at ha⟩
theorem aJ.push {x : α} {y : β} (H : aJ R l m) (h : R x y) : aJ R (l ++ [x]) (m ++ [y]) := H.append (.one h)
theorem aJ.set {x : α} {y : β} (H : aJ R l m) (h : R x y) (i : Nat) : aJ R (l.set i x) (m.set i y) := by
 refine ⟨by simp [H.1], fun j a b ha hb => ?_⟩
 rw [List.getElem?_set] at ha hb
 by_cases e : i = j
 · subst e
   rw [if_pos rfl] at ha hb
   split at ha
   · cases ha
     split at hb
     · cases hb; exact h
     · cases hb
   · cases ha
 · rw [if_neg e] at ha hb; exact H.2 j a b ha hb
theorem aJ.take (H : aJ R l m) (n : Nat) : aJ R (l.take n) (m.take n) := ⟨by simp [H.1], fun i x y hx hy => by
 rw [List.getElem?_take] at hx hy
 split at hx
 · rename_i hi; rw [if_pos hi] at hy; exact H.2 i x y hx hy
 · cases hx⟩
theorem aJ.drop (H : aJ R l m) (n : Nat) : aJ R (l.drop n) (m.drop n) := ⟨by simp [H.1], fun i x y hx hy => by
 rw [List.getElem?_drop] at hx hy; exact H.2 _ x y hx hy⟩
theorem aJ.Zm {x : α} {y : β} (h : R x y) : ∀ n, aJ R (List.replicate n x) (List.replicate n y)
 | 0 => .nil
 | n + 1 => ⟨by simp, fun i a b ha hb => by
  have h1 := List.mem_of_getElem? ha
  have h2 := List.mem_of_getElem? hb
  rw [(List.mem_replicate.1 h1).2, (List.mem_replicate.1 h2).2]; exact h⟩
end
def ix {α : Type} (l : List α) : Int → Option α
 | .ofNat n => l[n]?
 | .negSucc _ => none
theorem gb {α : Type} (l : List α) (n : Nat) : ix l (n : Int) = l[n]? := rfl
theorem HY {α : Type} {l : List α} {n : Int} {x : α} (h : ix l n = some x) : ∃ i : Nat, n = i ∧ i < l.length ∧ l[i]? = some x := by
 cases n with
 | ofNat i => exact ⟨i, rfl, (List.getElem?_eq_some_iff.1 h).1, h⟩
 | negSucc i => cases h
theorem bind_some {α β : Type} {o : Option α} {f : α → Option β} {r : β} (h : o.bind f = some r) : ∃ x, o = some x ∧ f x = some r := by
 cases o with
 | none => cases h
 | some x => exact ⟨x, rfl, h⟩
theorem aV {α : Type} {c : Bool} {a b r : α} (hc : c = true) (h : (bif c then a else b) = r) : a = r := by subst hc; exact h
theorem aW {α : Type} {c : Bool} {a b r : α} (hc : c = false) (h : (bif c then a else b) = r) : b = r := by subst hc; exact h
def gu {α : Type} (c : Bool) (k : Option α) : Option α := bif c then k else none
theorem oO {α : Type} {c : Bool} {k : Option α} {r : α} (h : gu c k = some r) : c = true ∧ k = some r := by
 cases c with
 | false => cases h
 | true => exact ⟨rfl, h⟩
abbrev fF (α : Type) := AH → List Value → α → Prop
def oP {α : Type} (rep : fF α) : Prop := ∀ g g' vs x, Sub g g' → rep g vs x → rep g' vs x
def Zn (sz n cap : Nat) : Prop := n < aU ∧ ((n ≤ cap ∧ cap < aU) ∨ cap = aU + sz)
inductive gH (g : AH) (sz : Nat) : Value → List (List Value) → Prop where
 | nil : gH g sz cZ []
 | mk (b o n cap : Nat) (ls : List (List Value)) (hn : n = ls.length) (hc : Zn sz n cap) (hs : ∀ x ∈ ls, x.length = sz) (hr : g.aZ b o ls.flatten) : gH g sz (eT b o n cap) ls
theorem gH.mono {g g' : AH} {sz : Nat} {v : Value} {ls : List (List Value)} (S : Sub g g') (H : gH g sz v ls) : gH g' sz v ls := by
 cases H with
 | nil => exact .nil
 | mk b o n cap ls hn hc hs hr => exact .mk b o n cap ls hn hc hs (S.aZ hr)
def aa {α : Type} (rep : fF α) (sz : Nat) (g : AH) (v : Value) (l : List α) : Prop := ∃ ls, gH g sz v ls ∧ aJ (rep g) ls l
theorem aa.mono {α : Type} {rep : fF α} {sz : Nat} {g g' : AH} {v : Value} {l : List α} (H : aa rep sz g v l) (hm : oP rep) (S : Sub g g') : aa rep sz g' v l := by
 obtain ⟨ls, h1, h2⟩ := H
 exact ⟨ls, h1.mono S, h2.mono fun x y h => hm _ _ _ _ S h⟩
theorem aa.nil {α : Type} {rep : fF α} {sz : Nat} {g : AH} : aa rep sz g cZ [] := ⟨[], .nil, .nil⟩
theorem gH.one {g : AH} {sz : Nat} {v : Value} {ls : List (List Value)} (H : gH g sz v ls) : dZ v = true := by cases H <;> rfl
theorem aa.one {α : Type} {rep : fF α} {sz : Nat} {g : AH} {v : Value} {l : List α} (H : aa rep sz g v l) : dZ v = true := by obtain ⟨ls, h1, _⟩ := H; exact h1.one
def rI (k : IntKind) : fF Int := fun _ vs x => vs = [.int k x]
def rB : fF Bool := fun _ vs x => vs = [.bool x]
def rS : fF ByteArray := fun _ vs x => vs = [.string x]
def rL {α : Type} (rep : fF α) (sz : Nat) : fF (List α) := fun g vs x => ∃ v, vs = [v] ∧ aa rep sz g v x
theorem ej (k : IntKind) : oP (rI k) := fun _ _ _ _ _ h => h
theorem CC : oP rB := fun _ _ _ _ _ h => h
theorem je {α : Type} {rep : fF α} {sz : Nat} (hm : oP rep) : oP (rL rep sz) := fun _ _ _ _ S ⟨v, h1, h2⟩ => ⟨v, h1, h2.mono hm S⟩
theorem oQ {sz : Nat} : ∀ {l : List (List Value)}, (∀ x ∈ l, x.length = sz) → l.flatten.length = l.length * sz
 | [], _ => by simp
 | x :: l, hs => by
  rw [List.flatten_cons, List.length_append, hs x List.mem_cons_self, oQ fun y hy => hs y (List.mem_cons_of_mem _ hy), List.length_cons, Nat.add_mul]; omega
theorem Qt {sz : Nat} : ∀ {l : List (List Value)} (n : Nat), (∀ x ∈ l, x.length = sz) → (l.drop n).flatten = l.flatten.drop (n * sz)
 | [], n, _ => by simp
 | x :: l, 0, _ => by simp
 | x :: l, n + 1, hs => by
  rw [List.drop_succ_cons, List.flatten_cons, Qt n fun y hy => hs y (List.mem_cons_of_mem _ hy), List.drop_append, List.drop_of_length_le (l := x) (by rw [hs x List.mem_cons_self, Nat.add_mul]; omega), List.nil_append, hs x List.mem_cons_self]
  congr 1
  rw [Nat.add_mul]; omega
theorem Qu {sz : Nat} : ∀ {l : List (List Value)} (n : Nat), (∀ x ∈ l, x.length = sz) → (l.take n).flatten = l.flatten.take (n * sz)
 | [], n, _ => by simp
 | x :: l, 0, _ => by simp
 | x :: l, n + 1, hs => by
  rw [List.take_succ_cons, List.flatten_cons, List.flatten_cons, Qu n fun y hy => hs y (List.mem_cons_of_mem _ hy), List.take_append, hs x List.mem_cons_self, List.take_of_length_le (show x.length ≤ (n + 1) * sz by rw [hs x List.mem_cons_self, Nat.add_mul]; omega)]
  congr 2
  rw [Nat.add_mul]; omega
theorem Zo {sz : Nat} : ∀ {l : List (List Value)} {i : Nat} {y : List Value}, (∀ x ∈ l, x.length = sz) → y.length = sz → i < l.length → ∀ j, (l.set i y).flatten[j]? = if i * sz ≤ j ∧ j < i * sz + sz then y[j - i * sz]? else l.flatten[j]?
 | [], i, y, _, _, h, j => by simp at h
 | x :: l, 0, y, hs, hy, _, j => by
  have hx := hs x List.mem_cons_self
  rw [List.set_cons_zero, List.flatten_cons, List.flatten_cons, Nat.zero_mul, Nat.zero_add]
  by_cases hj : j < sz
  · rw [if_pos ⟨Nat.zero_le _, hj⟩, List.getElem?_append_left (by omega)]; rfl
  · rw [if_neg (fun h => hj h.2), List.getElem?_append_right (by omega), List.getElem?_append_right (by omega), hx, hy]
 | x :: l, i + 1, y, hs, hy, hi, j => by
  have hx := hs x List.mem_cons_self
  rw [List.set_cons_succ, List.flatten_cons, List.flatten_cons]
  have e : (i + 1) * sz = i * sz + sz := by rw [Nat.add_mul]; omega
  by_cases hj : j < sz
  · rw [List.getElem?_append_left (by omega), if_neg (by omega), List.getElem?_append_left (by omega)]
  · rw [List.getElem?_append_right (by omega), List.getElem?_append_right (by omega), Zo (fun z hz => hs z (List.mem_cons_of_mem _ hz)) hy (by simpa using hi), hx, e]
    by_cases h2 : i * sz ≤ j - sz ∧ j - sz < i * sz + sz
    · rw [if_pos h2, if_pos (by omega)]; congr 1; omega
    · rw [if_neg h2, if_neg (by omega)]
theorem Qv {h : AH} {b o : Nat} {l : List Value} (n : Nat) (H : h.aZ b o l) : h.aZ b o (l.take n) := fun i v hv => H i v (by
 rw [List.getElem?_take] at hv; split at hv
 · exact hv
 · cases hv)
theorem Qw {h : AH} {b o : Nat} {l : List Value} (n : Nat) (H : h.aZ b o l) : h.aZ b (o + n) (l.drop n) := fun i v hv => by
 rw [List.getElem?_drop] at hv
 have := H (n + i) v hv
 rwa [show o + n + i = o + (n + i) by omega]
inductive dD (h : AH) (ty : TypeId) (sz : Nat) : Value → List (List Value) → Prop where
 | nil : dD h ty sz cZ []
 | un (b o n lo hi : Nat) (c : NT Value) (ls : List (List Value)) (hn : n = ls.length) (hb : n < aU) (hg : h.ob.get b = some (.cells lo hi ty true c)) (h1 : lo ≤ o) (h2 : o + n * sz ≤ hi) (hr : h.aZ b o ls.flatten) (hs : ∀ x ∈ ls, x.length = sz) : dD h ty sz (eT b o n (aU + sz)) ls
 | kn (b o n cap lo hi : Nat) (bU : TypeId) (c : NT Value) (ls : List (List Value)) (hn : n = ls.length) (hb : n ≤ cap) (hc : cap < aU) (hg : h.ob.get b = some (.cells lo hi bU true c)) (h1 : lo ≤ o) (h2 : o + cap * sz ≤ hi) (hr : h.aZ b o ls.flatten) (hs : ∀ x ∈ ls, x.length = sz) : dD h ty sz (eT b o n cap) ls
def dJ : Value → List Nat
 | .slice (some a) _ _ => [a.block]
 | _ => []
theorem dD.one {h : AH} {ty : TypeId} {sz : Nat} {v : Value} {ls : List (List Value)} (H : dD h ty sz v ls) : dZ v = true := by cases H <;> rfl
theorem dD.read {h : AH} {ty : TypeId} {sz : Nat} {v : Value} {ls : List (List Value)} (H : dD h ty sz v ls) : gH h sz v ls := by
 cases H with
 | nil => exact .nil
 | un b o n lo hi c ls hn hb hg h1 h2 hr hs => exact .mk b o n _ ls hn ⟨hb, .inr rfl⟩ hs hr
 | kn b o n cap lo hi bU c ls hn hb hc hg h1 h2 hr hs => exact .mk b o n cap ls hn ⟨by omega, .inl ⟨hb, hc⟩⟩ hs hr
theorem rP {h h' : AH} {b o : Nat} {l : List Value} (e : h'.ob.get b = h.ob.get b) (H : h.aZ b o l) : h'.aZ b o l := fun i v hv => by
 have := H i v hv
 unfold AH.rd at this ⊢
 rw [e]; exact this
theorem dD.yW {h h' : AH} {ty : TypeId} {sz : Nat} {v : Value} {ls : List (List Value)} (H : dD h ty sz v ls) (e : ∀ b ∈ dJ v, h'.ob.get b = h.ob.get b) : dD h' ty sz v ls := by
 cases H with
 | nil => exact .nil
 | un b o n lo hi c ls hn hb hg h1 h2 hr hs =>
  have e := e b (by simp [dJ])
  exact .un b o n lo hi c ls hn hb (e.trans hg) h1 h2 (rP e hr) hs
 | kn b o n cap lo hi bU c ls hn hb hc hg h1 h2 hr hs =>
  have e := e b (by simp [dJ])
  exact .kn b o n cap lo hi bU c ls hn hb hc (e.trans hg) h1 h2 (rP e hr) hs
inductive Ob where
 | bx (b : Nat) (l : List Value)
 | sl (ty : TypeId) (sz : Nat) (v : Value) (ls : List (List Value))
 | lp (n : Nat) (lo : LO) (st : LoopState) (pd : Option Code)
 | ds (d : List Nat)
 | mp (b : Nat) (es : List (Value × Value × Nat)) (cl : Nat)
 | raw (b : Nat) (a : AO)
def Ob.bj : Ob → List Nat
 | .bx b _ => [b]
 | .sl _ _ v _ => dJ v
 | .lp n _ _ _ => [n]
 | .ds d => d
 | .mp b _ _ => [b]
 | .raw b _ => [b]
def Ob.ok (h : AH) : Ob → Prop
 | .bx b l => h.aZ b 0 l ∧ h.can b 0 l.length
 | .sl ty sz v ls => dD h ty sz v ls
 | .lp n lo st pd => h.ob.get n = some (lo st pd)
 | .ds d => ∀ r ∈ d, h.ob.get r = some (.defs false)
 | .mp b es cl => h.ob.get b = some (.map es cl)
 | .raw b a => h.ob.get b = some a
theorem ajJ {h h' : AH} {b o n : Nat} (e : h'.ob.get b = h.ob.get b) (H : h.can b o n) : h'.can b o n := by
 obtain ⟨lo, hi, ty, c, h1, h2, h3⟩ := H
 exact ⟨lo, hi, ty, c, e.trans h1, h2, h3⟩
theorem Ob.yW {h h' : AH} {o : Ob} (H : o.ok h) (e : ∀ b ∈ o.bj, h'.ob.get b = h.ob.get b) : o.ok h' := by
 cases o with
 | bx b l =>
  have e := e b (by simp [Ob.bj])
  exact ⟨rP e H.1, ajJ e H.2⟩
 | sl ty sz v ls => exact dD.yW H e
 | lp n lo st pd => exact (e n (by simp [Ob.bj])).trans H
 | ds d => exact fun r hr => (e r hr).trans (H r hr)
 | mp b es cl => exact (e b (by simp [Ob.bj])).trans H
 | raw b a => exact (e b (by simp [Ob.bj])).trans H
structure Cx where
 g : AH
 h : AH
 C : List Nat
structure Sep (c : Cx) (g h : AH) (Γ : List Ob) : Prop where
 bX : Sub c.g g
 sub : Sub g h
 ok : h.Ok
 nx : c.h.nx ≤ h.nx
 old : ∀ f, f < c.h.nx → f ∉ c.C → h.ob.get f = c.h.ob.get f ∧ (c.g.ob.get f = none → g.ob.get f = none)
 dr : ∀ o ∈ Γ, o.ok h
 nd : (Γ.flatMap Ob.bj).Nodup
 own : ∀ b ∈ Γ.flatMap Ob.bj, b < h.nx ∧ g.ob.get b = none ∧ (c.h.nx ≤ b ∨ b ∈ c.C)
section
variable {c : Cx} {g h h' g' : AH} {Γ Γ' : List Ob} {o : Ob}
theorem Sep.start (S : Sub g h) (ok : h.Ok) : Sep ⟨g, h, []⟩ g h [] := ⟨.refl _, S, ok, Nat.le_refl _, fun f _ _ => ⟨rfl, id⟩, fun o ho => by simp at ho, by simp, fun b hb => by simp at hb⟩
theorem Sep.perm (S : Sep c g h Γ) (p : Γ'.Perm Γ) : Sep c g h Γ' :=
 have pf : (Γ'.flatMap Ob.bj).Perm (Γ.flatMap Ob.bj) := p.flatMap_right _
 ⟨S.bX, S.sub, S.ok, S.nx, S.old, fun o ho => S.dr o (p.mem_iff.1 ho), pf.nodup_iff.2 S.nd, fun b hb => S.own b (pf.mem_iff.1 hb)⟩
theorem Zp {α : Type} : ∀ {l : List α} {i : Nat} {x : α}, l[i]? = some x → (x :: l.eraseIdx i).Perm l
 | [], i, x, h => by simp at h
 | y :: l, 0, x, h => by simp at h; subst h; exact .refl _
 | y :: l, i + 1, x, h => by
  have := Zp (l := l) (i := i) (x := x) (by simpa using h)
  exact (List.Perm.swap y x _).trans (this.cons y)
theorem Sep.front (S : Sep c g h Γ) (i : Nat) (hi : Γ[i]? = some o) (e : Γ.eraseIdx i = Γ') : Sep c g h (o :: Γ') := e ▸ S.perm (Zp hi)
theorem Sep.drop (S : Sep c g h (o :: Γ)) : Sep c g h Γ :=
 ⟨S.bX, S.sub, S.ok, S.nx, S.old, fun x hx => S.dr x (List.mem_cons_of_mem _ hx), by have := S.nd; rw [List.flatMap_cons] at this; exact (List.nodup_append.1 this).2.1, fun b hb => S.own b (by rw [List.flatMap_cons]; exact List.mem_append_right _ hb)⟩
theorem Sep.bB (S : Sep c g h Γ) : Sep c g h [] :=
 ⟨S.bX, S.sub, S.ok, S.nx, S.old, fun x hx => by simp at hx, by simp, fun b hb => by simp at hb⟩
theorem Sep.apart (S : Sep c g h (o :: Γ)) {b : Nat} (hb : b ∈ o.bj) : b ∉ Γ.flatMap Ob.bj := fun bP => by
 have := S.nd
 rw [List.flatMap_cons] at this
 exact (List.nodup_append.1 this).2.2 b hb b bP rfl
theorem Sep.change (S : Sep c g h (o :: Γ)) (o' : Ob) (wH : h'.Ok) (pR : h.nx ≤ h'.nx) (ch : ∀ f, f < h.nx → f ∉ o.bj → h'.ob.get f = h.ob.get f) (ho : o'.ok h') (mT : o'.bj.Nodup)
 (hb : ∀ b ∈ o'.bj, b < h'.nx ∧ (h.nx ≤ b ∨ b ∈ o.bj)) : Sep c g h' (o' :: Γ) := by
 have own := fun b hb => S.own b (show b ∈ (o :: Γ).flatMap Ob.bj from hb)
 have Qx : ∀ b ∈ o.bj, b < h.nx ∧ g.ob.get b = none ∧ (c.h.nx ≤ b ∨ b ∈ c.C) := fun b hb => own b (by rw [List.flatMap_cons]; exact List.mem_append_left _ hb)
 have ajK : ∀ f, h.nx ≤ f → g.ob.get f = none := fun f hf => by
  cases hg : g.ob.get f with
  | none => rfl
  | some x => have := S.sub.get f x hg; rw [S.ok f hf] at this; cases this
 refine ⟨S.bX, ⟨Nat.le_trans S.sub.nx pR, fun f x hx => ?_⟩, wH, Nat.le_trans S.nx pR, fun f hf hc => ?_, fun x hx => ?_, ?_, fun b bP => ?_⟩
 · have h1 := S.sub.get f x hx
   have bG : f < h.nx := AH.lt_of_get S.ok h1
   rw [ch f bG (fun hm => by rw [(Qx f hm).2.1] at hx; cases hx)]; exact h1
 · obtain ⟨h1, h2⟩ := S.old f hf hc
   refine ⟨?_, h2⟩
   rw [ch f (Nat.lt_of_lt_of_le hf S.nx) (fun hm => by exact (Qx f hm).2.2.elim (fun h3 => by omega) hc)]; exact h1
 · rcases List.mem_cons.1 hx with rfl | hx
   · exact ho
   · refine Ob.yW (S.dr x (List.mem_cons_of_mem _ hx)) fun b ll => ?_
     have hm : b ∈ Γ.flatMap Ob.bj := List.mem_flatMap.2 ⟨x, hx, ll⟩
     have bG := (own b (by rw [List.flatMap_cons]; exact List.mem_append_right _ hm)).1
     exact ch b bG fun AR => S.apart AR hm
 · rw [List.flatMap_cons]
   refine List.nodup_append.2 ⟨mT, S.drop.nd, fun a ha b ll e => ?_⟩
   subst e
   rcases (hb a ha).2 with h1 | h1
   · have := (S.drop.own a ll).1; omega
   · exact S.apart h1 ll
 · rw [List.flatMap_cons] at bP
   rcases List.mem_append.1 bP with h1 | h1
   · obtain ⟨h2, h3⟩ := hb b h1
     refine ⟨h2, ?_⟩
     rcases h3 with h3 | h3
     · exact ⟨ajK b h3, .inl (Nat.le_trans S.nx h3)⟩
     · exact (Qx b h3).2
   · obtain ⟨h2, h3⟩ := S.drop.own b h1
     exact ⟨by omega, h3⟩
theorem Sep.add (S : Sep c g h Γ) (o' : Ob) (wH : h'.Ok) (pR : h.nx ≤ h'.nx) (ch : ∀ f, f < h.nx → h'.ob.get f = h.ob.get f) (ho : o'.ok h') (mT : o'.bj.Nodup) (hb : ∀ b ∈ o'.bj, b < h'.nx ∧ h.nx ≤ b) : Sep c g h' (o' :: Γ) := by
 have S0 : Sep c g h (.sl 0 0 cZ [] :: Γ) := ⟨S.bX, S.sub, S.ok, S.nx, S.old, fun x hx => by
  rcases List.mem_cons.1 hx with rfl | hx
  · exact dD.nil
  · exact S.dr x hx, by rw [List.flatMap_cons]; exact S.nd, fun b hb => S.own b (by rw [List.flatMap_cons] at hb; exact hb)⟩
 exact S0.change o' wH pR (fun f hf _ => ch f hf) ho mT fun b bP => ⟨(hb b bP).1, .inl (hb b bP).2⟩
theorem Sep.CD (S : Sep c g h Γ) (ty : TypeId) (sz : Nat) : Sep c g h (.sl ty sz cZ [] :: Γ) := S.add _ S.ok (Nat.le_refl _) (fun _ _ => rfl) dD.nil (by simp [Ob.bj, dJ]) (fun b hb => by simp [Ob.bj, dJ] at hb)
theorem Sep.ch (S : Sep c g h Γ) (K : cU h h') (wH : h'.Ok) : Sep c g h' Γ :=
 (Sep.add S (.sl 0 0 cZ []) wH K.nx K.get dD.nil (by simp [Ob.bj, dJ]) (fun b hb => by simp [Ob.bj, dJ] at hb)).drop
theorem Sep.call {Γ1 : List Ob} (S : Sep c g h Γ) (S' : Sep ⟨g, h, []⟩ g' h' Γ1) : Sep c g' h' (Γ1 ++ Γ) := by
 have Zq : ∀ b ∈ Γ1.flatMap Ob.bj, b < h'.nx ∧ g'.ob.get b = none ∧ h.nx ≤ b := fun b hb => by
  obtain ⟨h1, h2, h3⟩ := S'.own b hb
  refine ⟨h1, h2, ?_⟩
  rcases h3 with h3 | h3
  · exact h3
  · simp at h3
 have Qy : ∀ f, f < h.nx → h'.ob.get f = h.ob.get f ∧ (g.ob.get f = none → g'.ob.get f = none) := fun f hf => S'.old f hf (by simp)
 refine ⟨S.bX.trans S'.bX, S'.sub, S'.ok, Nat.le_trans S.nx S'.nx, fun f hf hc => ?_, fun x hx => ?_, ?_, fun b hb => ?_⟩
 · obtain ⟨h1, h2⟩ := S.old f hf hc
   obtain ⟨h3, h4⟩ := Qy f (Nat.lt_of_lt_of_le hf S.nx)
   exact ⟨h3.trans h1, fun hn => h4 (h2 hn)⟩
 · rcases List.mem_append.1 hx with hx | hx
   · exact S'.dr x hx
   · refine Ob.yW (S.dr x hx) fun b hb => ?_
     exact (Qy b (S.own b (List.mem_flatMap.2 ⟨x, hx, hb⟩)).1).1
 · rw [List.flatMap_append]
   refine List.nodup_append.2 ⟨S'.nd, S.nd, fun a ha b hb e => ?_⟩
   subst e
   have := (Zq a ha).2.2
   have := (S.own a hb).1
   omega
 · rw [List.flatMap_append] at hb
   rcases List.mem_append.1 hb with hb | hb
   · obtain ⟨h1, h2, h3⟩ := Zq b hb
     exact ⟨h1, h2, .inl (Nat.le_trans S.nx h3)⟩
   · obtain ⟨h1, h2, h3⟩ := S.own b hb
     exact ⟨Nat.lt_of_lt_of_le h1 S'.nx, (Qy b h1).2 h2, h3⟩
def AH.CE (g h : AH) (b : Nat) : AH := ⟨h.nx, g.ob.set b (h.ob.get b)⟩
theorem AH.CF (g h : AH) (b f : Nat) : (g.CE h b).ob.get f = if f = b then h.ob.get b else g.ob.get f := by
 show (g.ob.set b _).get f = _
 rw [NT.c7]
theorem Sep.freeze (S : Sep c g h (o :: Γ)) {b : Nat} (hb : o.bj = [b]) : Sub g (g.CE h b) ∧ Sep c (g.CE h b) h Γ ∧ (g.CE h b).ob.get b = h.ob.get b := by
 have Zr : b ∈ o.bj := by rw [hb]; simp
 obtain ⟨h1, h2, h3⟩ := S.own b (by rw [List.flatMap_cons]; exact List.mem_append_left _ Zr)
 have sg : Sub g (g.CE h b) := ⟨S.sub.nx, fun f x hx => by
  rw [AH.CF]
  split
  · rename_i e; subst e; rw [h2] at hx; cases hx
  · exact hx⟩
 refine ⟨sg, ⟨S.bX.trans sg, ⟨Nat.le_refl _, fun f x hx => ?_⟩, S.ok, S.nx, fun f hf hc => ?_, S.drop.dr, S.drop.nd, fun b' bP => ?_⟩, by rw [AH.CF, if_pos rfl]⟩
 · rw [AH.CF] at hx
   split at hx
   · rename_i e; subst e; exact hx
   · exact S.sub.get f x hx
 · obtain ⟨h4, h5⟩ := S.old f hf hc
   refine ⟨h4, fun hn => ?_⟩
   rw [AH.CF, if_neg]
   · exact h5 hn
   · rintro rfl
     rcases h3 with h3 | h3
     · omega
     · exact hc h3
 · obtain ⟨h4, h5, h6⟩ := S.drop.own b' bP
   refine ⟨h4, ?_, h6⟩
   rw [AH.CF, if_neg]
   · exact h5
   · rintro rfl; exact S.apart Zr bP
theorem Sep.qh {b : Nat} {l : List Value} (S : Sep c g h (.bx b l :: Γ)) : ∃ g', Sub g g' ∧ Sep c g' h Γ ∧ g'.aZ b 0 l := by
 obtain ⟨h1, h2, h3⟩ := S.freeze (b := b) rfl
 exact ⟨_, h1, h2, rP h3 (S.dr _ List.mem_cons_self).1⟩
theorem Sep.ajL {ty : TypeId} {sz : Nat} {v : Value} {ls : List (List Value)} (S : Sep c g h (.sl ty sz v ls :: Γ)) : ∃ g', Sub g g' ∧ Sep c g' h Γ ∧ gH g' sz v ls := by
 have H : dD h ty sz v ls := S.dr _ List.mem_cons_self
 have R := H.read
 cases R with
 | nil => exact ⟨g, .refl _, S.drop, .nil⟩
 | mk b o n cap ls hn hc hs hr =>
  obtain ⟨h1, h2, h3⟩ := S.freeze (b := b) rfl
  exact ⟨_, h1, h2, .mk b o n cap ls hn hc hs (rP h3 hr)⟩
theorem Sep.fz {α : Type} {rep : fF α} {ty : TypeId} {sz : Nat} {v : Value} {ls : List (List Value)} {l : List α} (S : Sep c g h (.sl ty sz v ls :: Γ)) (A : aJ (rep g) ls l) (hm : oP rep) : ∃ g', Sub g g' ∧ Sep c g' h Γ ∧ aa rep sz g' v l := by
 obtain ⟨g', h1, h2, h3⟩ := S.ajL
 exact ⟨g', h1, h2, ls, h3, A.mono fun x y Pv => hm _ _ _ _ h1 Pv⟩
theorem Sep.back (S : Sep c g h Γ) (S' : Sep c g' h' Γ') (hs : Sub g g') : Sep c g h' Γ' :=
 ⟨S.bX, hs.trans S'.sub, S'.ok, S'.nx, fun f hf hc => ⟨(S'.old f hf hc).1, fun hn => (S.old f hf hc).2 hn⟩, S'.dr, S'.nd, fun b hb => by
  obtain ⟨h1, h2, h3⟩ := S'.own b hb
  refine ⟨h1, ?_, h3⟩
  cases hg : g.ob.get b with
  | none => rfl
  | some x => rw [hs.get b x hg] at h2; cases h2⟩
end
end
end Go.Ve
namespace Go.Ve
open Go.RowKit
open Classical
noncomputable section
theorem bz {c : Bool} {A B : W} {h : AH} (ht : c = true → A h) (hf : c = false → B h) : br (.bool c) A B h := by
 cases c with
 | true => exact ht rfl
 | false => exact hf rfl
theorem aH {c want : Bool} {A : (Value → W) → W} {K : Value → W} {h : AH} (e : c = want) (H : A K h) : gd (.bool c) want A K h := by
 subst e; unfold gd; cases c <;> exact H
theorem aG {c want : Bool} {A : (Value → W) → W} {K : Value → W} {h : AH} (e : c ≠ want) (H : K undef h) : gd (.bool c) want A K h := by
 unfold gd; cases c <;> cases want <;> first | exact absurd rfl e | exact H
section
variable {c : Cx} {g h : AH} {Γ : List Ob} {R : Value → AH → Prop}
theorem Sep.ct {b o : Nat} {v : Value} (S : Sep c g h Γ) (hr : g.rd b o = some v) (K : R v h) : WP .aI [aC b o] h R := (Gw (S.sub.rd hr)).2 K
theorem Sep.mS {b o n : Nat} {l : List Value} (S : Sep c g h Γ) (hr : g.aZ b o l) (hn : l.length = n) (h0 : 0 < n) (K : R (.agg ⟨l⟩) h) : WP (.bF n) [aC b o] h R := (Gx (S.sub.aZ hr) hn h0).2 K
theorem ZH {ty : TypeId} {l : List Value} : Ob.ok (h.new ty l) (.bx h.nx l) := ⟨AH.Gt h ty l, AH.Xs h ty l (by omega)⟩
theorem Sep.alloc {ty : TypeId} {l : List Value} (S : Sep c g h Γ) (ha : cO l = true) (K : ∀ b h', Sep c g h' (.bx b l :: Γ) → R (aC b 0) h') : WP (.alloc ty l) [] h R :=
 (Bv ha).2 (K _ _ (S.add _ (AH.tj S.ok _ _) (Nat.le_succ _) (cU.new h ty l).get ZH (by simp [Ob.bj]) (fun b hb => by simp [Ob.bj] at hb; subst hb; exact ⟨Nat.lt_succ_self _, Nat.le_refl _⟩)))
theorem Sep.box {ty : TypeId} {v : Value} (l : List Value) (S : Sep c g h Γ) (hl : cellsOf v = l) (ha : cO l = true) (K : ∀ b h', Sep c g h' (.bx b l :: Γ) → R (aC b 0) h') : WP (.box ty) [v] h R := by
 subst hl
 exact (Gv ha).2 (K _ _ (S.add _ (AH.tj S.ok _ _) (Nat.le_succ _) (cU.new h ty _).get ZH (by simp [Ob.bj]) (fun b hb => by simp [Ob.bj] at hb; subst hb; exact ⟨Nat.lt_succ_self _, Nat.le_refl _⟩)))
theorem Sep.bQ {b o : Nat} {l : List Value} {v : Value} (S : Sep c g h Γ) (i : Nat) (hi : Γ[i]? = some (.bx b l)) (hv : l[o]? = some v) (K : R v h) : WP .aI [aC b o] h R := by
 have := (S.dr _ (List.mem_of_getElem? hi)).1 o v hv
 rw [Nat.zero_add] at this
 exact (Gw this).2 K
theorem Sep.cL {b o n : Nat} {l : List Value} (m : List Value) (S : Sep c g h Γ) (i : Nat) (hi : Γ[i]? = some (.bx b l)) (hm : (l.drop o).take n = m) (hn : m.length = n) (h0 : 0 < n) (K : R (.agg ⟨m⟩) h) : WP (.bF n) [aC b o] h R := by
 have := Qv n (Qw o (S.dr _ (List.mem_of_getElem? hi)).1)
 rw [Nat.zero_add, hm] at this
 exact (Gx this hn h0).2 K
theorem ZI {l m : List Value} {o j : Nat} (hl : o + m.length ≤ l.length) : (kp l o m)[j]? = if o ≤ j ∧ j < o + m.length then m[j - o]? else l[j]? := by
 unfold kp
 by_cases h1 : j < o
 · rw [if_neg (by omega), List.append_assoc, List.getElem?_append_left (by rw [List.length_take]; omega), List.getElem?_take, if_pos h1]
 · rw [List.append_assoc, List.getElem?_append_right (by rw [List.length_take]; omega), List.length_take, Nat.min_eq_left (by omega)]
   by_cases h2 : j < o + m.length
   · rw [if_pos (by omega), List.getElem?_append_left (by omega)]
   · rw [if_neg (by omega), List.getElem?_append_right (by omega), List.getElem?_drop]; congr 1; omega
theorem QD {l m : List Value} {o : Nat} (hl : o + m.length ≤ l.length) : (kp l o m).length = l.length := by unfold kp; simp; omega
theorem Sep.dk {b o n : Nat} {l : List Value} {v : Value} (m l' : List Value) (S : Sep c g h (.bx b l :: Γ)) (hm : cellsOf v = m) (hn : m.length = n) (ha : cO m = true) (ho : o + n ≤ l.length) (fP : kp l o m = l') (K : ∀ h', Sep c g h' (.bx b l' :: Γ) → R undef h') : WP (.store n) [aC b o, v] h R := by
 subst hm; subst fP; subst hn
 have H : Ob.ok h (.bx b l) := S.dr _ List.mem_cons_self
 obtain ⟨h1, lo, hi, ty, cc, h2, h3, h4⟩ := H
 have hc : h.can b o (cellsOf v).length := ⟨lo, hi, ty, cc, h2, by omega, by omega⟩
 refine (Gy hc rfl ha).2 (K _ ?_)
 have bG := AH.lt_of_get S.ok h2
 refine S.change _ (AH.vP S.ok _ _ _) (by rw [AH.l5]; exact Nat.le_refl _) (fun f _ hf => AH.tk h (by simp [Ob.bj] at hf; exact hf)) ⟨fun i u hu => ?_, ?_⟩ (by simp [Ob.bj]) (fun b' bP => by simp [Ob.bj] at bP; subst bP; exact ⟨by rw [AH.l5]; exact bG, .inr (by simp [Ob.bj])⟩)
 · rw [ZI ho] at hu
   rw [Nat.zero_add, AH.yt hc (Nat.le_refl _)]
   split at hu
   · rename_i hh; rw [if_pos ⟨rfl, hh⟩]; exact hu
   · rename_i hh; rw [if_neg (fun e => hh e.2)]; have := h1 i u hu; rwa [Nat.zero_add] at this
 · rw [QD ho]; exact AH.Xt ⟨lo, hi, ty, cc, h2, h3, h4⟩
def wJ (v : Value) (sz i b o : Nat) : Prop := ∃ o0 n cap, v = eT b o0 n cap ∧ o = o0 + i * sz
theorem gH.len {h2 : AH} {sz : Nat} {v : Value} {ls : List (List Value)} (H : gH h2 sz v ls) (K : R (vi (ls.length : Int)) h) : WP .cx [v] h R := by
 cases H with
 | nil => exact af0.2 K
 | mk b o n cap ls hn hc hs hr => subst hn; exact afZ.2 K
theorem gH.idx {h2 : AH} {sz : Nat} {v : Value} {ls : List (List Value)} (H : gH h2 sz v ls) {i : Nat} {x : List Value} (hx : ls[i]? = some x) :
 ∃ b o, wJ v sz i b o ∧ h2.aZ b o x ∧ ∀ (kd : IntKind) (h : AH) (R : Value → AH → Prop), R (aC b o) h → WP (.cd sz) [v, .int kd (i : Int)] h R := by
 have hi : i < ls.length := (List.getElem?_eq_some_iff.1 hx).1
 cases H with
 | nil => simp at hi
 | mk b o n cap ls hn hc hs hr =>
  subst hn
  refine ⟨b, o + i * sz, ⟨o, _, cap, rfl, rfl⟩, fun j u hu => ?_, fun kd h R K => (afW hi).2 K⟩
  have := hr (i * sz + j) u (Pa hs hx j u hu)
  rwa [show o + (i * sz + j) = o + i * sz + j by omega] at this
theorem aa.len {α : Type} {rep : fF α} {g2 : AH} {sz : Nat} {v : Value} {l : List α} (F : aa rep sz g2 v l) (K : R (vi (l.length : Int)) h) : WP .cx [v] h R := by
 obtain ⟨ls, h1, h2⟩ := F
 exact h1.len (by rw [h2.1]; exact K)
theorem aa.idx {α : Type} {rep : fF α} {sz : Nat} {v : Value} {l : List α} {n : Int} {x : α} {kd : IntKind} (F : aa rep sz g v l) (hx : ix l n = some x) (K : ∀ b o vs, wJ v sz n.toNat b o → g.aZ b o vs → rep g vs x → R (aC b o) h) : WP (.cd sz) [v, .int kd n] h R := by
 obtain ⟨i, rfl, hi, hx⟩ := HY hx
 obtain ⟨ls, h1, h2⟩ := F
 obtain ⟨cs, h3, h4⟩ := h2.get hx
 obtain ⟨b, o, h7, h5, h6⟩ := h1.idx h3
 exact h6 kd h R (K b o cs h7 h5 h4)
theorem Sep.QE {α : Type} {rep : fF α} {ty : TypeId} {sz : Nat} {v : Value} {ls : List (List Value)} {l : List α} (S : Sep c g h Γ) (k : Nat) (hk : Γ[k]? = some (.sl ty sz v ls)) (A : aJ (rep g) ls l) (K : R (vi (l.length : Int)) h) : WP .cx [v] h R :=
 gH.len (dD.read (S.dr _ (List.mem_of_getElem? hk))) (by rw [A.1]; exact K)
theorem Sep.yZ {α : Type} {rep : fF α} {ty : TypeId} {sz : Nat} {v : Value} {ls : List (List Value)} {l : List α} {n : Int} {x : α} {kd : IntKind} (S : Sep c g h Γ) (k : Nat) (hk : Γ[k]? = some (.sl ty sz v ls)) (A : aJ (rep g) ls l) (hx : ix l n = some x)
 (K : ∀ b o cs, wJ v sz n.toNat b o → ls[n.toNat]? = some cs → rep g cs x → R (aC b o) h) : WP (.cd sz) [v, .int kd n] h R := by
 obtain ⟨i, rfl, hi, hx⟩ := HY hx
 obtain ⟨cs, h3, h4⟩ := A.get hx
 obtain ⟨b, o, h5, _, h6⟩ := (dD.read (S.dr _ (List.mem_of_getElem? hk))).idx h3
 exact h6 kd h R (K b o cs h5 h3 h4)
theorem gH.elem {h2 : AH} {sz : Nat} {v : Value} {ls : List (List Value)} (H : gH h2 sz v ls) {i b o : Nat} {x : List Value} (hx : ls[i]? = some x) (E : wJ v sz i b o) : h2.aZ b o x := by
 obtain ⟨b', o', ⟨o0, n, cap, e1, e2⟩, h1, _⟩ := H.idx hx
 obtain ⟨o0', n', cH, e3, e4⟩ := E
 rw [e1] at e3
 cases e3
 rw [e4, ← e2]; exact h1
theorem Sep.QF {ty : TypeId} {sz : Nat} {v u : Value} {ls : List (List Value)} {i b o j : Nat} {cs : List Value} (S : Sep c g h Γ) (k : Nat) (hk : Γ[k]? = some (.sl ty sz v ls)) (E : wJ v sz i b o) (hc : ls[i]? = some cs) (hv : cs[j]? = some u) (K : R u h) : WP .aI [aC b (o + j)] h R :=
 (Gw (((dD.read (S.dr _ (List.mem_of_getElem? hk))).elem hc E) j u hv)).2 K
theorem dD.wr {ty : TypeId} {sz : Nat} {v : Value} {ls : List (List Value)} {i b o j : Nat} {cs m : List Value} (H : dD h ty sz v ls) (E : wJ v sz i b o) (hc : ls[i]? = some cs) (hj : j + m.length ≤ sz) :
 dJ v = [b] ∧ h.can b (o + j) m.length ∧ dD (h.wr b (o + j) m) ty sz v (ls.set i (kp cs j m)) := by
 have hi : i < ls.length := (List.getElem?_eq_some_iff.1 hc).1
 obtain ⟨o0, n0, ZJ, e1, e2⟩ := E
 subst e2
 have le : (i + 1) * sz ≤ ls.length * sz := Nat.mul_le_mul_right _ hi
 have hk : i * sz + sz ≤ ls.length * sz := by rw [Nat.add_mul, Nat.one_mul] at le; exact le
 have fl : ∀ (hs : ∀ x ∈ ls, x.length = sz) (q : Nat) (u : Value), (ls.set i (kp cs j m)).flatten[q]? = some u → (if i * sz + j ≤ q ∧ q < i * sz + j + m.length then m[q - (i * sz + j)]? else ls.flatten[q]?) = some u := by
  intro hs q u hu
  have dY : cs.length = sz := hs cs (List.mem_of_getElem? hc)
  rw [Zo hs (by rw [QD (by omega), dY]) hi] at hu
  by_cases h1 : i * sz ≤ q ∧ q < i * sz + sz
  · rw [if_pos h1, ZI (by omega)] at hu
    by_cases h2 : j ≤ q - i * sz ∧ q - i * sz < j + m.length
    · rw [if_pos h2] at hu; rw [if_pos (by omega)]; rw [show q - (i * sz + j) = q - i * sz - j by omega]; exact hu
    · rw [if_neg h2] at hu; rw [if_neg (by omega)]
      have := Pa hs hc (q - i * sz) u hu
      rwa [show i * sz + (q - i * sz) = q by omega] at this
  · rw [if_neg h1] at hu; rw [if_neg (by omega)]; exact hu
 have ZK : ∀ (hs : ∀ x ∈ ls, x.length = sz), ∀ x ∈ ls.set i (kp cs j m), x.length = sz := fun hs x hx => by
  rcases List.mem_or_eq_of_mem_set hx with h1 | h1
  · exact hs x h1
  · have dY : cs.length = sz := hs cs (List.mem_of_getElem? hc)
    rw [h1, QD (by omega), dY]
 have ZL : ∀ lo hi bU cc, h.ob.get b = some (.cells lo hi bU true cc) → (h.wr b (o0 + i * sz + j) m).ob.get b = some (.cells lo hi bU true (iR cc (o0 + i * sz + j) m)) := fun lo hi bU cc hg => by
  unfold AH.wr; rw [hg]; show (h.ob.set b _).get b = _; rw [NT.c7, if_pos rfl]
 cases H with
 | nil => simp at hi
 | un b' o' n lo cz cc ls hn hb hg h1 h2 hr hs =>
  cases e1
  have gp : h.can b (o0 + i * sz + j) m.length := ⟨lo, cz, ty, cc, hg, by omega, by rw [hn] at h2; omega⟩
  refine ⟨rfl, gp, .un b o0 n0 lo cz _ _ (by simp [hn]) hb (ZL _ _ _ _ hg) h1 h2 (fun q u hu => ?_) (ZK hs)⟩
  rw [AH.yt gp (Nat.le_refl _)]
  have := fl hs q u hu
  split at this
  · rw [if_pos (by omega)]; rw [show o0 + q - (o0 + i * sz + j) = q - (i * sz + j) by omega]; exact this
  · rw [if_neg (by omega)]; exact hr q u this
 | kn b' o' n cap lo cz bU cc ls hn hb ow hg h1 h2 hr hs =>
  cases e1
  have : ls.length * sz ≤ ZJ * sz := Nat.mul_le_mul_right _ (by omega)
  have gp : h.can b (o0 + i * sz + j) m.length := ⟨lo, cz, bU, cc, hg, by omega, by omega⟩
  refine ⟨rfl, gp, .kn b o0 n0 ZJ lo cz bU _ _ (by simp [hn]) hb ow (ZL _ _ _ _ hg) h1 h2 (fun q u hu => ?_) (ZK hs)⟩
  rw [AH.yt gp (Nat.le_refl _)]
  have := fl hs q u hu
  split at this
  · rw [if_pos (by omega)]; rw [show o0 + q - (o0 + i * sz + j) = q - (i * sz + j) by omega]; exact this
  · rw [if_neg (by omega)]; exact hr q u this
theorem dD.lt {ty : TypeId} {sz : Nat} {v : Value} {ls : List (List Value)} (H : dD h ty sz v ls) (ok : h.Ok) : ∀ b ∈ dJ v, b < h.nx := by
 cases H with
 | nil => intro b hb; simp [dJ] at hb
 | un b o n lo hi c ls hn hb hg h1 h2 hr hs => intro b' bP; simp [dJ] at bP; subst bP; exact AH.lt_of_get ok hg
 | kn b o n cap lo hi bU c ls hn hb hc hg h1 h2 hr hs => intro b' bP; simp [dJ] at bP; subst bP; exact AH.lt_of_get ok hg
theorem ZM (v : Value) : (dJ v).Nodup := by unfold dJ; split <;> simp
theorem wK {ty : TypeId} {sz : Nat} {v : Value} {ls : List (List Value)} : (Ob.sl ty sz v ls).bj.Nodup := ZM v
theorem Sep.QG {ty : TypeId} {sz n : Nat} {v u : Value} {ls : List (List Value)} {i b o j : Nat} {cs : List Value} (m : List Value) (S : Sep c g h (.sl ty sz v ls :: Γ)) (E : wJ v sz i b o) (hc : ls[i]? = some cs) (hm : cellsOf u = m) (hn : m.length = n) (ha : cO m = true) (hj : j + n ≤ sz)
 (K : ∀ h', Sep c g h' (.sl ty sz v (ls.set i (kp cs j m)) :: Γ) → R undef h') : WP (.store n) [aC b (o + j), u] h R := by
 subst hm; subst hn
 have H : dD h ty sz v ls := S.dr _ List.mem_cons_self
 obtain ⟨h1, h2, h3⟩ := H.wr E hc hj
 refine (Gy h2 rfl ha).2 (K _ ?_)
 refine S.change _ (AH.vP S.ok _ _ _) (by rw [AH.l5]; exact Nat.le_refl _) (fun f _ hf => AH.tk h (fun e => hf (by subst e; show f ∈ dJ v; rw [h1]; simp))) h3 (ZM v) (fun b' bP => ⟨by rw [AH.l5]; exact H.lt S.ok b' bP, .inr bP⟩)
theorem Sep.ZN {ty : TypeId} {sz : Nat} {zero : List Value} {n : Int} {k1 k2 : IntKind} (S : Sep c g h Γ) (hn : (decide (0 ≤ n) && decide (n ≤ 65536)) = true) (hz : zero.length = sz) (ha : cO zero = true) (K : ∀ v h', Sep c g h' (.sl ty sz v (List.replicate n.toNat zero) :: Γ) → R v h') :
 WP (.mkSlice ty sz zero) [.int k1 n, .int k2 n] h R := by
 rw [Bool.and_eq_true, decide_eq_true_eq, decide_eq_true_eq] at hn
 obtain ⟨i, rfl⟩ : ∃ i : Nat, n = i := ⟨n.toNat, by omega⟩
 rw [Int.toNat_natCast] at K
 have fj : ∀ k : Nat, cO (List.replicate k zero).flatten = true := by
  intro k
  induction k with
  | zero => rfl
  | succ k ih =>
   rw [List.replicate_succ, List.flatten_cons]
   have app : ∀ (l m : List Value), cO l = true → cO m = true → cO (l ++ m) = true := fun l m h1 h2 => by
    induction l with
    | nil => exact h2
    | cons v l Od =>
     rw [tr, Bool.and_eq_true] at h1
     rw [List.cons_append, tr, Bool.and_eq_true]
     exact ⟨h1.1, Od h1.2⟩
   exact app _ _ ha ih
 refine (age (Nat.le_refl i) (by omega) hz (fj i)).2 (K _ _ ?_)
 have hlen : (List.replicate i zero).flatten.length = i * sz := by rw [oQ (sz := sz) (fun x hx => by rw [(List.mem_replicate.1 hx).2]; exact hz)]; simp
 refine S.add _ (AH.tj S.ok _ _) (Nat.le_succ _) (cU.new h _ _).get ?_ wK (fun b hb => by simp [Ob.bj, dJ] at hb; subst hb; exact ⟨Nat.lt_succ_self _, Nat.le_refl _⟩)
 refine .kn h.nx 0 i i 0 (List.replicate i zero).flatten.length ty _ _ (by simp) (Nat.le_refl _) (by unfold aU; omega) (by show (h.ob.set h.nx _).get h.nx = _; rw [NT.c7, if_pos rfl]) (Nat.le_refl _) (by rw [hlen]; omega) ?_ (fun x hx => by rw [(List.mem_replicate.1 hx).2]; exact hz)
 exact AH.Gt h ty _
theorem Sep.wL {ty : TypeId} {n sz : Nat} {cells : List Value} {ps : List (Nat × Nat)} {vs : List Value} (ls : List (List Value)) (S : Sep c g h Γ) (hf : kq cells ps vs = some ls.flatten) (hn : ls.length = n) (hu : n < 1000000) (hs : ∀ x ∈ ls, x.length = sz) (ha : cO ls.flatten = true)
 (K : ∀ v h', Sep c g h' (.sl ty sz v ls :: Γ) → R v h') : WP (.buildSlice ty n cells ps) vs h R := by
 subst hn
 refine (ago hf ha).2 (K _ _ ?_)
 refine S.add _ (AH.tj S.ok _ _) (Nat.le_succ _) (cU.new h _ _).get ?_ wK (fun b hb => by simp [Ob.bj, dJ] at hb; subst hb; exact ⟨Nat.lt_succ_self _, Nat.le_refl _⟩)
 exact .kn h.nx 0 ls.length ls.length 0 ls.flatten.length ty _ ls rfl (Nat.le_refl _) (by unfold aU; omega) (by show (h.ob.set h.nx _).get h.nx = _; rw [NT.c7, if_pos rfl]) (Nat.le_refl _) (by rw [oQ hs]; omega) (AH.Gt h ty _) hs
theorem gH.src {sz : Nat} {x : Value} {xs : List (List Value)} (H : gH h sz x xs) (h0 : 0 < sz) (k : Nat → List Value → Bool) : kN h sz x k = k xs.length xs.flatten := by
 cases H with
 | nil => exact agf sz k
 | mk b o n cap _ hn hc hs hr =>
  subst hn
  cases xs with
  | nil => exact agi k
  | cons y l => exact agh hr (oQ hs) (Nat.mul_pos (by simp) h0) k
theorem ZO {b o lo hi at_ : Nat} {ty : TypeId} {rw : Bool} {cc : NT Value} {old xs : List Value} {h2 : AH} (hg2 : h2.ob.get b = some (.cells lo hi ty rw (iR cc at_ xs))) (e : at_ = o + old.length) (h1 : lo ≤ o) (OL : o + old.length + xs.length ≤ hi) (ho : ∀ q u, old[q]? = some u → cc.get (o + q) = some u) : h2.aZ b o (old ++ xs) := by
 subst e
 intro q u hu
 have hq : q < (old ++ xs).length := (List.getElem?_eq_some_iff.1 hu).1
 rw [List.length_append] at hq
 unfold AH.rd
 rw [hg2]
 show (if lo ≤ o + q ∧ o + q + 1 ≤ hi then (iR cc (o + old.length) xs).get (o + q) else none) = some u
 rw [if_pos ⟨by omega, by omega⟩, vO]
 by_cases h : q < old.length
 · rw [if_neg (by omega)]
   rw [List.getElem?_append_left h] at hu
   exact ho q u hu
 · rw [if_pos ⟨by omega, by omega⟩]
   rw [List.getElem?_append_right (by omega)] at hu
   rw [show o + q - (o + old.length) = q - old.length by omega]; exact hu
theorem ZP {b o lo hi : Nat} {ty : TypeId} {rw : Bool} {cc : NT Value} {l : List Value} (hg : h.ob.get b = some (.cells lo hi ty rw cc)) (hr : h.aZ b o l) : ∀ q u, l[q]? = some u → cc.get (o + q) = some u := fun q u hu => by
 obtain ⟨tn, cz, bU, lQ, c', g1, _, _, g4⟩ := Gu (hr q u hu)
 rw [hg] at g1; cases g1; exact g4
theorem QH {sz : Nat} {ls xs : List (List Value)} (hs : ∀ x ∈ ls, x.length = sz) (hx : ∀ x ∈ xs, x.length = sz) : ∀ x ∈ ls ++ xs, x.length = sz := fun x h => by
 rcases List.mem_append.1 h with h | h
 · exact hs x h
 · exact hx x h
theorem ZQ {l m : List Value} (h1 : cO l = true) (h2 : cO m = true) : cO (l ++ m) = true := by
 induction l with
 | nil => exact h2
 | cons v l ih =>
  rw [tr, Bool.and_eq_true] at h1
  rw [List.cons_append, tr, Bool.and_eq_true]
  exact ⟨h1.1, ih h1.2⟩
theorem gH.uV {sz : Nat} {x : Value} {xs : List (List Value)} (H : gH h sz x xs) : ∀ y ∈ xs, y.length = sz := by
 cases H with
 | nil => intro y hy; simp at hy
 | mk b o n cap ls hn hc hs hr => exact hs
theorem ajZ {ty : TypeId} {sz n : Nat} {zero xs : List Value} {x : Value} (hx : ∀ k : Nat → List Value → Bool, kN h sz x k = k n xs) (h1 : 1 ≤ sz) (hz : zero.length = sz) (hn : 0 < n) {b o cap : Nat} {s : Option Nat} (hb : n ≤ 1048576) (hc : cap < n) (ha : cO xs = true) :
 WP (.append ty sz zero) [.slice (some ⟨b, o, s⟩) 0 cap, x] h R ↔ R (eT h.nx 0 n (aU + sz)) (h.new ty xs) := cP fun k => by
 rw [vR hx h1 hz]
 show (bif Nat.beq n 0 then k (.slice (some ⟨b, o, none⟩) 0 cap) h else fN (Nat.add 0 n) fun gS => iff (Nat.ble gS 1048576) (bif Nat.ble aU cap then _ else bif Nat.ble gS cap then _ else bif Nat.beq 0 0 then jT h ty xs (fun b' h => fN (Nat.add aU sz) fun cp => k (.slice (some ⟨b', 0, none⟩) gS cp) h) else _)) = _
 have e : Nat.ble (0 + n) 1048576 = true := by rw [Nat.ble_eq]; omega
 have e2 : Nat.ble aU cap = false := by
  have : ¬ aU ≤ cap := by unfold aU; omega
  cases hh : Nat.ble aU cap with
  | false => rfl
  | true => rw [Nat.ble_eq] at hh; exact absurd hh this
 have e3 : Nat.ble (0 + n) cap = false := by
  cases hh : Nat.ble (0 + n) cap with
  | false => rfl
  | true => rw [Nat.ble_eq] at hh; omega
 rw [eO (show n ≠ 0 by omega)]
 simp only [cond_false]
 rw [bT, show Nat.add 0 n = 0 + n from rfl, e, fe, e2, e3]
 show jT h ty xs _ = _
 rw [vQ h ty ha, bT, Nat.zero_add]; rfl
theorem aj0 {ty : TypeId} {sz n : Nat} {zero xs : List Value} {x : Value} (hx : ∀ k : Nat → List Value → Bool, kN h sz x k = k n xs) (h1 : 1 ≤ sz) (hz : zero.length = sz) (hn : 0 < n) {b o len cap : Nat} {s : Option Nat} (hb : len + n ≤ 1048576) (hc : len + n ≤ cap) (hu : cap < aU) (ha : cO xs = true) (hw : h.can b (o + len * sz) xs.length) :
 WP (.append ty sz zero) [.slice (some ⟨b, o, s⟩) len cap, x] h R ↔ R (eT b o (len + n) cap) (h.wr b (o + len * sz) xs) := cP fun k => by
 rw [vR hx h1 hz]
 show (bif Nat.beq n 0 then k (.slice (some ⟨b, o, none⟩) len cap) h else fN (Nat.add len n) fun gS => iff (Nat.ble gS 1048576) (bif Nat.ble aU cap then _ else bif Nat.ble gS cap then fN (Nat.add o (Nat.mul len sz)) (fun at_ => pS h b at_ xs fun h => k (.slice (some ⟨b, o, none⟩) gS cap) h) else _)) = _
 have e : Nat.ble (len + n) 1048576 = true := by rw [Nat.ble_eq]; omega
 have e2 : Nat.ble aU cap = false := by
  cases hh : Nat.ble aU cap with
  | false => rfl
  | true => rw [Nat.ble_eq] at hh; omega
 have e3 : Nat.ble (len + n) cap = true := by rw [Nat.ble_eq]; exact hc
 rw [eO (show n ≠ 0 by omega)]
 simp only [cond_false]
 rw [bT, show Nat.add len n = len + n from rfl, e, fe, e2, e3]
 simp only [cond_true, cond_false]
 rw [bT]
 show pS h b (o + len * sz) xs _ = _
 rw [Oh hw ha]
theorem Sep.app {ty : TypeId} {sz : Nat} {zero : List Value} {s x : Value} {ls xs : List (List Value)} (S : Sep c g h (.sl ty sz s ls :: Γ)) (X : gH h sz x xs) (hb : decide (ls.length + xs.length ≤ 1048576) = true) (h0 : 0 < sz) (hz : zero.length = sz) (ha : cO xs.flatten = true) (H5 : cO ls.flatten = true)
 (K : ∀ s' h', Sep c g h' (.sl ty sz s' (ls ++ xs) :: Γ) → R s' h') : WP (.append ty sz zero) [s, x] h R := by
 rw [decide_eq_true_eq] at hb
 have uc := X.src h0
 have jS := X.uV
 have H : dD h ty sz s ls := S.dr _ List.mem_cons_self
 have QI : xs.flatten.length = xs.length * sz := oQ jS
 cases xs with
 | nil =>
  cases H with
  | nil => exact (agj uc h0 hz).2 (K _ _ (by simpa using S))
  | un b o n lo hi cc ls hn wM hg h1 h2 hr hs => exact (XC uc h0 hz).2 (K _ _ (by simpa using S))
  | kn b o n cap lo hi bU cc ls hn wM ow hg h1 h2 hr hs => exact (XC uc h0 hz).2 (K _ _ (by simpa using S))
 | cons y xs =>
  have nK : 0 < (y :: xs).length := by simp
  generalize y :: xs = xs at *
  have aj1 : ∀ (all : List (List Value)), all.length < aU → (∀ x ∈ all, x.length = sz) → dD (h.new ty all.flatten) ty sz (eT h.nx 0 all.length (aU + sz)) all := fun all hu hs => by
   refine .un h.nx 0 all.length 0 all.flatten.length _ all rfl hu (by show (h.ob.set h.nx _).get h.nx = _; rw [NT.c7, if_pos rfl]) (Nat.le_refl _) ?_ (AH.Gt h ty _) hs
   rw [oQ hs]; omega
  have aoK : 1048576 < aU := by unfold aU; omega
  have fresh : ∀ (all : List (List Value)), all.length < aU → (∀ x ∈ all, x.length = sz) → Sep c g (h.new ty all.flatten) (.sl ty sz (eT h.nx 0 all.length (aU + sz)) all :: Γ) := fun all hu hs =>
   S.change _ (AH.tj S.ok _ _) (Nat.le_succ _) (fun f hf _ => (cU.new h ty _).get f hf) (aj1 all hu hs) wK (fun b hb => by simp [Ob.bj, dJ] at hb; subst hb; exact ⟨Nat.lt_succ_self _, .inl (Nat.le_refl _)⟩)
  cases H with
  | nil =>
   refine (agk uc h0 hz nK (by simpa using hb) ha).2 (K _ _ ?_)
   exact fresh xs (by simp at hb; omega) jS
  | un b o n lo hi cc ls hn wM hg h1 h2 hr hs =>
   subst hn
   refine (agl uc h0 hz nK hb ha hg h1 h2).2 (K _ _ ?_)
   have bG := AH.lt_of_get S.ok hg
   have wI : (h.grown b o ty cc (o + ls.length * sz) (o + (ls.length + xs.length) * sz) xs.flatten).ob.get h.nx = some (.cells o (o + (ls.length + xs.length) * sz) ty true (iR cc (o + ls.length * sz) xs.flatten)) := by
    show ((h.kill b).dR _).ob.get h.nx = _
    rw [AH.pZ, if_pos (show h.nx = (h.kill b).nx from rfl)]
   refine S.change _ (AH.yu (AH.XA S.ok b) _) (Nat.le_succ _) (fun f hf cS => ?_) ?_ wK (fun b' bP => by simp [Ob.bj, dJ] at bP; subst bP; exact ⟨Nat.lt_succ_self _, .inl (Nat.le_refl _)⟩)
   · have hfb : f ≠ b := fun e => cS (by rw [e]; simp [Ob.bj, dJ])
     show ((h.kill b).dR _).ob.get f = _
     rw [AH.pZ, if_neg (show ¬ f = (h.kill b).nx from fun e => by have e' : f = h.nx := e; omega), AH.GH, if_neg hfb]
   · refine .un h.nx o (ls.length + xs.length) o (o + (ls.length + xs.length) * sz) _ (ls ++ xs) (by simp) (by omega) wI (Nat.le_refl _) (Nat.le_refl _) ?_ (QH hs jS)
     rw [List.flatten_append]
     exact ZO wI (by rw [oQ hs]) (Nat.le_refl _) (by rw [oQ hs, QI, Nat.add_mul]; omega) (ZP hg hr)
  | kn b o n cap lo hi bU cc ls hn wM ow hg h1 h2 hr hs =>
   subst hn
   by_cases mR : ls.length + xs.length ≤ cap
   · have hmul : (ls.length + xs.length) * sz ≤ cap * sz := Nat.mul_le_mul_right _ mR
     rw [Nat.add_mul] at hmul
     have hw : h.can b (o + ls.length * sz) xs.flatten.length := ⟨lo, hi, bU, cc, hg, by omega, by rw [QI]; omega⟩
     refine (aj0 uc h0 hz nK hb mR ow ha hw).2 (K _ _ ?_)
     have wI : (h.wr b (o + ls.length * sz) xs.flatten).ob.get b = some (.cells lo hi bU true (iR cc (o + ls.length * sz) xs.flatten)) := by
      unfold AH.wr; rw [hg]; show (h.ob.set b _).get b = _; rw [NT.c7, if_pos rfl]
     refine S.change _ (AH.vP S.ok _ _ _) (by rw [AH.l5]; exact Nat.le_refl _) (fun f _ hf => AH.tk h (fun e => hf (by rw [e]; simp [Ob.bj, dJ]))) ?_ wK (fun b' bP => by simp [Ob.bj, dJ] at bP; subst bP; exact ⟨by rw [AH.l5]; exact AH.lt_of_get S.ok hg, .inr (by simp [Ob.bj, dJ])⟩)
     refine .kn b o (ls.length + xs.length) cap lo hi bU _ (ls ++ xs) (by simp) mR ow wI h1 h2 ?_ (QH hs jS)
     rw [List.flatten_append]
     exact ZO wI (by rw [oQ hs]) h1 (by rw [oQ hs, QI]; omega) (ZP hg hr)
   · have oi := hr
     have QJ := fresh (ls ++ xs) (by simp; omega) (QH hs jS)
     rw [List.flatten_append, List.length_append] at QJ
     cases ls with
     | nil =>
      have : WP (.append ty sz zero) [eT b o 0 cap, x] h R := (ajZ uc h0 hz nK (by simpa using hb) (by simp at mR; omega) ha).2 (K _ _ (by simpa using QJ))
      simpa using this
     | cons z ls =>
      exact (agm uc h0 hz nK hb (by omega) (ZQ H5 ha) (by simp) hr (oQ hs)).2 (K _ _ QJ)
def CJ {α : Type} (l : List α) (a b : Int) : Option (List α) := gu (decide (0 ≤ a) && decide (a ≤ b) && decide (b ≤ (l.length : Int))) (some ((l.take b.toNat).drop a.toNat))
theorem aj2 {α : Type} {l m : List α} {a b : Int} (h : CJ l a b = some m) : ∃ i j : Nat, a = i ∧ b = j ∧ i ≤ j ∧ j ≤ l.length ∧ m = (l.take j).drop i := by
 obtain ⟨h1, h2⟩ := oO h
 simp only [Bool.and_eq_true, decide_eq_true_eq] at h1
 cases h2
 exact ⟨a.toNat, b.toNat, by omega, by omega, by omega, by omega, rfl⟩
def ud (sz : Nat) (v : Value) (i j : Nat) : Value := match v with
 | .slice (some a) n cap => if cap < aU then (if cap = i then .slice (some ⟨a.block, a.off, none⟩) (j - i) 0 else .slice (some ⟨a.block, a.off + i * sz, none⟩) (j - i) (cap - i)) else .slice (some ⟨a.block, a.off + i * sz, none⟩) (j - i) cap
 | v => v
theorem ZR {sz : Nat} {b o n cap i j : Nat} (hc : Zn sz n cap) (y0 : i ≤ j) (hj : j ≤ n) (lo hi : Bool) {vs : List Value} (hl : lo = false → i = 0) (hh : hi = false → j = n) {k1 k2 : IntKind} (hv : vs = (if lo then [.int k1 (i : Int)] else []) ++ (if hi then [.int k2 (j : Int)] else [])) (K : R (ud sz (eT b o n cap) i j) h) :
    WP (.slice sz lo hi false) (eT b o n cap :: vs) h R := by
  have key : ∀ k : KV, (iff (true && Nat.ble i j && Nat.ble j cap && (Nat.ble j n || !(Nat.ble aU cap)) && true && (bif Nat.ble aU cap then Nat.beq cap (Nat.add aU sz) else true)) (q8 sz i j cap cap false b o fun v => k v h)) = k (ud sz (eT b o n cap) i j) h := fun k => by
    obtain ⟨hn, hc⟩ := hc
    rcases hc with ⟨h1, h2⟩ | h1
    · have e1 : Nat.ble aU cap = false := by
        cases hh : Nat.ble aU cap with
        | false => rfl
        | true => rw [Nat.ble_eq] at hh; omega
      have e2 : (true && Nat.ble i j && Nat.ble j cap && (Nat.ble j n || !(Nat.ble aU cap)) && true && (bif Nat.ble aU cap then Nat.beq cap (Nat.add aU sz) else true)) = true := by
        rw [e1]; simp only [Bool.and_eq_true, Nat.ble_eq, Bool.or_eq_true, Bool.not_false, cond_false]; exact ⟨⟨⟨⟨⟨trivial, y0⟩, by omega⟩, .inl hj⟩, trivial⟩, trivial⟩
      rw [e2, fe]
      unfold q8
      rw [bT, e1]
      show iff (Nat.ble (Nat.succ cap) aU) _ = _
      have e3 : Nat.ble (Nat.succ cap) aU = true := by rw [Nat.ble_eq]; exact h2
      rw [e3, fe]
      show _ = k (if cap < aU then (if cap = i then .slice (some ⟨b, o, none⟩) (j - i) 0 else .slice (some ⟨b, o + i * sz, none⟩) (j - i) (cap - i)) else .slice (some ⟨b, o + i * sz, none⟩) (j - i) cap) h
      rw [if_pos h2]
      by_cases jy : cap = i
      · rw [if_pos jy, j7 jy]; rfl
      · rw [if_neg jy, eO jy]
        simp only [cond_false]
        rw [bT, bT]; rfl
    · subst h1
      have e1 : Nat.ble aU (aU + sz) = true := by rw [Nat.ble_eq]; omega
      have e4 : Nat.beq (aU + sz) (Nat.add aU sz) = true := by rw [Nat.beq_eq]; rfl
      have e2 : (true && Nat.ble i j && Nat.ble j (aU + sz) && (Nat.ble j n || !(Nat.ble aU (aU + sz))) && true && (bif Nat.ble aU (aU + sz) then Nat.beq (aU + sz) (Nat.add aU sz) else true)) = true := by
        rw [e1, e4]; simp only [Bool.and_eq_true, Nat.ble_eq, Bool.or_eq_true, Bool.not_true, cond_true]; exact ⟨⟨⟨⟨⟨trivial, y0⟩, by omega⟩, .inl hj⟩, trivial⟩, trivial⟩
      rw [e2, fe]
      unfold q8
      rw [bT, e1]
      simp only [Bool.not_false, Bool.and_true, cond_true]
      rw [bT]
      show _ = k (if aU + sz < aU then _ else .slice (some ⟨b, o + i * sz, none⟩) (j - i) (aU + sz)) h
      rw [if_neg (by omega)]; rfl
  subst hv
  cases lo <;> cases hi
  · have hl := hl rfl; have hh := hh rfl; subst hl; subst hh
    exact (cP (p := .slice sz false false false) (vs := [eT b o j cap]) (v := ud sz (eT b o j cap) 0 j) (h' := h) (h := h) key).2 K
  · have hl := hl rfl; subst hl
    exact (cP (p := .slice sz false true false) (vs := [eT b o n cap, .int k2 (j : Int)]) (v := ud sz (eT b o n cap) 0 j) (h' := h) (h := h) key).2 K
  · have hh := hh rfl; subst hh
    exact (cP (p := .slice sz true false false) (vs := [eT b o j cap, .int k1 (i : Int)]) (v := ud sz (eT b o j cap) i j) (h' := h) (h := h) key).2 K
  · exact (cP (p := .slice sz true true false) (vs := [eT b o n cap, .int k1 (i : Int), .int k2 (j : Int)]) (v := ud sz (eT b o n cap) i j) (h' := h) (h := h) key).2 K
theorem dD.cut {ty : TypeId} {sz : Nat} {v : Value} {ls : List (List Value)} (H : dD h ty sz v ls) {i j : Nat} (y0 : i ≤ j) (hj : j ≤ ls.length) (lo hi : Bool) (hl : lo = false → i = 0) (hh : hi = false → j = ls.length) {k1 k2 : IntKind} {vs : List Value} (hv : vs = (if lo then [.int k1 (i : Int)] else []) ++ (if hi then [.int k2 (j : Int)] else [])) :
 ∃ v', dD h ty sz v' ((ls.take j).drop i) ∧ dJ v' = dJ v ∧ ∀ (R : Value → AH → Prop), R v' h → WP (.slice sz lo hi false) (v :: vs) h R := by
 cases H with
 | nil =>
  have hj0 : j = 0 := by simpa using hj
  have hi0 : i = 0 := by omega
  subst hj0; subst hi0
  refine ⟨cZ, .nil, rfl, fun R K => ?_⟩
  subst hv
  cases lo <;> cases hi <;> exact fun k hk => hk _ _ K
 | un b o n tn cz cc ls hn wM hg h1 h2 hr hs =>
  subst hn
  refine ⟨ud sz (eT b o ls.length (aU + sz)) i j, ?_, ?_, fun R K => ZR ⟨wM, .inr rfl⟩ y0 hj lo hi hl hh hv K⟩
  · show dD h ty sz (if aU + sz < aU then _ else .slice (some ⟨b, o + i * sz, none⟩) (j - i) (aU + sz)) _
    rw [if_neg (by omega)]
    have m1 : i * sz ≤ j * sz := Nat.mul_le_mul_right _ y0
    have m2 : j * sz ≤ ls.length * sz := Nat.mul_le_mul_right _ hj
    refine .un b _ _ tn cz cc _ (by simp; omega) (by omega) hg (by omega) (by rw [Nat.sub_mul]; omega) ?_ (fun x hx => hs x (List.mem_of_mem_take (List.mem_of_mem_drop hx)))
    rw [Qt i (fun x hx => hs x (List.mem_of_mem_take hx)), Qu j hs]
    exact Qw _ (Qv _ hr)
  · show dJ (if aU + sz < aU then _ else .slice (some ⟨b, o + i * sz, none⟩) (j - i) (aU + sz)) = _
    rw [if_neg (by omega)]; rfl
 | kn b o n cap tn cz bU cc ls hn wM ow hg h1 h2 hr hs =>
  subst hn
  refine ⟨ud sz (eT b o ls.length cap) i j, ?_, ?_, fun R K => ZR ⟨by omega, .inl ⟨wM, ow⟩⟩ y0 hj lo hi hl hh hv K⟩
  · show dD h ty sz (if cap < aU then (if cap = i then .slice (some ⟨b, o, none⟩) (j - i) 0 else .slice (some ⟨b, o + i * sz, none⟩) (j - i) (cap - i)) else .slice (some ⟨b, o + i * sz, none⟩) (j - i) cap) _
    rw [if_pos ow]
    have m1 : i * sz ≤ cap * sz := Nat.mul_le_mul_right _ (by omega)
    by_cases jy : cap = i
    · rw [if_pos jy]
      have : j = i := by omega
      subst this
      have e : (ls.take j).drop j = [] := List.drop_of_length_le (by rw [List.length_take]; omega)
      rw [e]
      exact .kn b o _ 0 tn cz bU cc [] (by simp) (by omega) (by omega) hg h1 (by omega) (AH.Oa _ _ _) (by simp)
    · rw [if_neg jy]
      refine .kn b _ _ _ tn cz bU cc _ (by simp; omega) (by omega) (by omega) hg (by omega) (by rw [Nat.sub_mul]; omega) ?_ (fun x hx => hs x (List.mem_of_mem_take (List.mem_of_mem_drop hx)))
      rw [Qt i (fun x hx => hs x (List.mem_of_mem_take hx)), Qu j hs]
      exact Qw _ (Qv _ hr)
  · show dJ (if cap < aU then (if cap = i then .slice (some ⟨b, o, none⟩) (j - i) 0 else .slice (some ⟨b, o + i * sz, none⟩) (j - i) (cap - i)) else .slice (some ⟨b, o + i * sz, none⟩) (j - i) cap) = _
    by_cases h5 : cap = i
    · rw [if_pos ow, if_pos h5]; rfl
    · rw [if_pos ow, if_neg h5]; rfl
end
end
end Go.Ve
namespace Go.Ve
open Go.RowKit
open Classical
noncomputable section
def One {α : Type} (rep : fF α) (n : Nat) : Prop := ∀ g vs x, rep g vs x → vs.length = n ∧ cO vs = true
theorem qi (k : IntKind) : One (rI k) 1 := fun _ vs x h => by cases h; exact ⟨rfl, rfl⟩
theorem ae {v : Value} {l : List Value} (h1 : dZ v = true) (h2 : cO l = true) : cO (v :: l) = true := by rw [tr, h1, h2]; rfl
theorem ZS {α : Type} {rep : fF α} {sz : Nat} : One (rL rep sz) 1 := fun _ vs x ⟨v, h1, h2⟩ => by subst h1; exact ⟨rfl, ae h2.one rfl⟩
theorem nR {α : Type} {rep : fF α} {n : Nat} (H : One rep n) {g : AH} {ls : List (List Value)} {l : List α} (A : aJ (rep g) ls l) : cO ls.flatten = true := by
 induction ls generalizing l with
 | nil => rfl
 | cons x ls ih =>
  cases l with
  | nil => have := A.1; simp at this
  | cons y l =>
   rw [List.flatten_cons]
   refine ZQ (H g x y (A.2 0 x y rfl rfl)).2 (ih (l := l) ⟨by simpa using A.1, fun i a b ha hb => A.2 (i + 1) a b (by simpa using ha) (by simpa using hb)⟩)
def bytesOf (l : List UInt8) : ByteArray := ⟨⟨l⟩⟩
theorem wN {sz : Nat} : ∀ x ∈ ([] : List (List Value)), x.length = sz := fun x h => by simp at h
theorem wO {sz : Nat} {y : List Value} {l : List (List Value)} (h1 : y.length = sz) (h2 : ∀ x ∈ l, x.length = sz) : ∀ x ∈ y :: l, x.length = sz := fun x h => by
 rcases List.mem_cons.1 h with rfl | h
 · exact h1
 · exact h2 x h
theorem cG {l m l2 r : List Value} {o n : Nat} {ps : List (Nat × Nat)} {v : Value} {vs : List Value} (h1 : cellsOf v = m) (h2 : m.length = n) (h3 : o + n ≤ l.length) (h4 : kp l o m = l2) (H : kq l2 ps vs = some r) : kq l ((o, n) :: ps) (v :: vs) = some r := by
 subst h1; subst h4
 unfold kq
 rw [if_pos ⟨h2, h3⟩]; exact H
theorem PJ {k : IntKind} {n : Int} : rf (.int k n) (.int k n) = true := by
 show (bif fy k k then lq n n else false) = true
 rw [rq, Gp]; simp
theorem Yv {b o : Nat} : rf (aC b o) (aC b o) = true := by
 show (Nat.beq b b && Nat.beq o o) = true
 rw [Nat.beq_refl, Nat.beq_refl]; rfl
theorem gH.PK {g : AH} {sz : Nat} {v : Value} {ls : List (List Value)} (H : gH g sz v ls) : rf v v = true := by
 cases H with
 | nil => rfl
 | mk b o n cap ls hn hc hs hr =>
  show (Nat.beq b b && Nat.beq o o && Nat.beq n n && Nat.beq cap cap) = true
  rw [Nat.beq_refl, Nat.beq_refl, Nat.beq_refl, Nat.beq_refl]; rfl
theorem aa.PK {α : Type} {rep : fF α} {sz : Nat} {g : AH} {v : Value} {l : List α} (F : aa rep sz g v l) : rf v v = true := by obtain ⟨ls, h, _⟩ := F; exact h.PK
theorem PI {c want : Bool} {A : W → W} {K : W} {h : AH} (e : c = want) (H : A K h) : gk (.bool c) want A K h := by
 subst e; unfold gk; cases c <;> exact H
theorem PH {c want : Bool} {A : W → W} {K : W} {h : AH} (e : c ≠ want) (H : K h) : gk (.bool c) want A K h := by
 unfold gk; cases c <;> cases want <;> first | exact absurd rfl e | exact H
theorem ahJ {want : Bool} {A : (Value → W) → W} {K : Value → W} {h : AH} (H : K undef h) : gd undef want A K h := H
theorem wP {A B : W} {h : AH} (H : A h) : br (.bool true) A B h := H
theorem rT {A B : W} {h : AH} (H : B h) : br (.bool false) A B h := H
section
variable {c : Cx} {g h g' h' : AH} {Γ : List Ob} {R : Value → AH → Prop}
theorem za {α : Type} {len : Nat} (l : List α) (f : α → Value) (hl : l.length = len) {n : Int} {x : α} {kd : IntKind} (hx : ix l n = some x) (K : R (f x) h) : WP (.qv len) [.agg ⟨l.map f⟩, .int kd n] h R := by
 obtain ⟨i, rfl, hi, hx⟩ := HY hx
 exact (afX (by omega) (by rw [List.getElem?_map, hx]; rfl)).2 K
theorem Sep.nS {ty : TypeId} {sz : Nat} {v : Value} {ls : List (List Value)} (S : Sep c g h Γ) (k : Nat) (hk : Γ[k]? = some (.sl ty sz v ls)) : dZ v = true := dD.one (S.dr _ (List.mem_of_getElem? hk))
theorem Sep.rd {ty : TypeId} {sz : Nat} {v : Value} {ls : List (List Value)} (S : Sep c g h Γ) (k : Nat) (hk : Γ[k]? = some (.sl ty sz v ls)) : gH h sz v ls := dD.read (S.dr _ (List.mem_of_getElem? hk))
theorem Sep.cW (S : Sep c g h Γ) (S' : Sep ⟨g, h, []⟩ g' h' []) : Sep c g h' Γ :=
 S.call ((Sep.start S.sub S.ok).back S' S'.bX)
theorem Sep.take (S : Sep c g h Γ) (n : Nat) : Sep c g h (Γ.take n) := by
 have al : (Γ.take n).Sublist Γ := List.take_sublist n Γ
 have hf : ((Γ.take n).flatMap Ob.bj).Sublist (Γ.flatMap Ob.bj) := by
  have e : Γ.flatMap Ob.bj = (Γ.take n).flatMap Ob.bj ++ (Γ.drop n).flatMap Ob.bj := by rw [← List.flatMap_append, List.take_append_drop]
  rw [e]; exact List.sublist_append_left _ _
 exact ⟨S.bX, S.sub, S.ok, S.nx, S.old, fun x hx => S.dr x (al.subset hx), hf.nodup S.nd, fun b hb => S.own b (hf.subset hb)⟩
theorem dE {ss : List Nat} {vs : List Value} (l : List Value) (hs : cQ ss vs = true) (e : vs.flatMap cellsOf = l) (K : R (.agg ⟨l⟩) h) : WP (.db ss) vs h R := (GL hs).2 (by rw [e]; exact K)
theorem Sep.cut {α : Type} {rep : fF α} {ty : TypeId} {sz : Nat} {v : Value} {ls : List (List Value)} {l : List α} {i j : Nat} {k1 k2 : IntKind} {vs : List Value} (S : Sep c g h (.sl ty sz v ls :: Γ)) (A : aJ (rep g) ls l) (h1 : i ≤ j) (h2 : j ≤ l.length) (lo hi : Bool) (hl : lo = false → i = 0) (hh : hi = false → j = l.length)
 (hv : vs = (if lo then [.int k1 (i : Int)] else []) ++ (if hi then [.int k2 (j : Int)] else [])) (K : ∀ v' rU, Sep c g h (.sl ty sz v' rU :: Γ) → aJ (rep g) rU ((l.take j).drop i) → R v' h) : WP (.slice sz lo hi false) (v :: vs) h R := by
 have H : dD h ty sz v ls := S.dr _ List.mem_cons_self
 obtain ⟨v', h5, h6, h7⟩ := H.cut (k1 := k1) (k2 := k2) h1 (by rw [A.1]; exact h2) lo hi hl (fun e => (hh e).trans A.1.symm) hv
 refine h7 R (K v' _ ?_ ((A.take j).drop i))
 refine S.change _ S.ok (Nat.le_refl _) (fun _ _ _ => rfl) h5 wK (fun b hb => ?_)
 have bP : b ∈ dJ v := by have ll : b ∈ dJ v' := hb; rwa [h6] at ll
 exact ⟨H.lt S.ok b bP, .inr bP⟩
theorem Sep.aj3 {α : Type} {rep : fF α} {ty : TypeId} {sz : Nat} {v : Value} {ls : List (List Value)} {l m : List α} {b : Int} {k2 : IntKind} (S : Sep c g h (.sl ty sz v ls :: Γ)) (A : aJ (rep g) ls l) (hx : CJ l 0 b = some m) (K : ∀ v' rU, Sep c g h (.sl ty sz v' rU :: Γ) → aJ (rep g) rU m → R v' h) : WP (.slice sz false true false) [v, .int k2 b] h R := by
 obtain ⟨i, j, e, rfl, h1, h2, rfl⟩ := aj2 hx
 exact S.cut (k1 := .i64) A h1 h2 false true (fun _ => by omega) (by simp) rfl K
end
end
end Go.Ve
namespace Go.Ve
open Go.RowKit
open Classical
noncomputable section
inductive Fl where
 | go
 | ret
 | ex (n : Nat)
def Fl.pd : Fl → Option Code
 | .go => none
 | .ret => some .ret
 | .ex n => some (.exit n)
def Fl.st : Fl → LoopState
 | .go => .ready
 | _ => .done
def Fl.on : Fl → Bool
 | .go => true
 | _ => false
def H6 {ρ : Type} (f : Fl) (N Rt : Option ρ) (X : Nat → Option ρ) : Option ρ := match f with
 | .go => N
 | .ret => Rt
 | .ex n => X n
theorem ZT {ρ : Type} {N Rt : Option ρ} {X : Nat → Option ρ} {r : ρ} (h : H6 .go N Rt X = some r) : N = some r := h
theorem ZU {ρ : Type} {N Rt : Option ρ} {X : Nat → Option ρ} {r : ρ} (h : H6 .ret N Rt X = some r) : Rt = some r := h
theorem QK {N Rt : W} {X : List (Nat × W)} {h : AH} (H : N h) : sk Fl.go.pd N Rt X h := H
theorem ZV {N Rt : W} {X : List (Nat × W)} {h : AH} (H : Rt h) : sk Fl.ret.pd N Rt X h := H
def oS {α σ : Type} (b : σ → α → Option (σ × Fl)) : List α → σ → Option (σ × Fl)
 | [], s => some (s, .go)
 | x :: l, s => (b s x).bind fun q => match q.2 with
  | .go => oS b l q.1
  | f => some (q.1, f)
def ue {α : Type} (P : Program) (w0 : World) (g : AH) (fv : Value) (c : α → List Value) (l : List α) : Prop :=
 dZ fv = true ∧ ∃ id first bD, fv = .func (.func id) ⟨first⟩ ⟨bD⟩ ∧ ∀ (yv : Value) (Inv : Nat → AH → AH → Prop) (Stop : AH → Prop) (Q : CR → AH → Prop) (g1 h : AH), Sub g g1 →
  (∀ i g h g' h', Inv i g h → Sep ⟨g, h, []⟩ g' h' [] → Inv i g' h') → (∀ i g h, Inv i g h → Sub g h ∧ h.Ok) →
  (∀ i x g h (E K : Value → W), l[i]? = some x → Inv i g h → (∀ g' h', Sub g g' → Inv (i + 1) g' h' → K (.bool true) h') → (∀ h', Stop h' → K (.bool false) h') → dy P w0 (yv :: c x) E K h) →
  Inv 0 g1 h → (∀ v g' h', Sub g1 g' → Inv l.length g' h' → Q (.ret v) h') → (∀ v h', Stop h' → Q (.ret v) h') → WF P w0 id (first ++ (yv :: bD)) h Q
theorem ue.mono {α : Type} {P : Program} {w0 : World} {g g' : AH} {fv : Value} {c : α → List Value} {l : List α} (H : ue P w0 g fv c l) (S : Sub g g') : ue P w0 g' fv c l := by
 obtain ⟨h0, id, first, bD, h1, h2⟩ := H
 exact ⟨h0, id, first, bD, h1, fun yv Inv Stop Q g1 h s => h2 yv Inv Stop Q g1 h (S.trans s)⟩
section
variable {c : Cx} {g h g' h' : AH} {Γ : List Ob} {R : Value → W}
theorem Sep.H7 {n : Nat} {lo : LO} {st : LoopState} {pd : Option Code} (S : Sep c g h (.lp n lo st pd :: Γ)) (zb : LoopState) (tq : Option Code) : Sep c g (h.ly n (lo zb tq)) (.lp n lo zb tq :: Γ) := by
 have H : h.ob.get n = some (lo st pd) := S.dr _ List.mem_cons_self
 have hn := AH.lt_of_get S.ok H
 refine S.change _ (AH.GD S.ok hn _) (Nat.le_refl _) (fun f _ hf => ?_) ?_ (by simp [Ob.bj]) (fun b hb => by simp [Ob.bj] at hb; subst hb; exact ⟨hn, .inr (by simp [Ob.bj])⟩)
 · rw [AH.rz, if_neg (by simpa [Ob.bj] using hf)]
 · show (h.ly n (lo zb tq)).ob.get n = _
   rw [AH.rz, if_pos rfl]
theorem Sep.qw {n : Nat} {lo : LO} {st : LoopState} {pd : Option Code} {K : W} (S : Sep c g h (.lp n lo st pd :: Γ)) (k : K h) : qw lo n K h := ⟨⟨st, pd, S.dr _ List.mem_cons_self⟩, k⟩
theorem Sep.my {n : Nat} {lo : LO} {pd : Option Code} {K : W} (S : Sep c g h (.lp n lo .ready pd :: Γ)) (k : ∀ h', Sep c g h' (.lp n lo .busy pd :: Γ) → K h') : my lo n K h := ⟨pd, S.dr _ List.mem_cons_self, k _ (S.H7 _ _)⟩
theorem Sep.jq {n : Nat} {lo : LO} {st zb : LoopState} {pd tq : Option Code} {b : Bool} (S : Sep c g h (.lp n lo st pd :: Γ)) (k : ∀ h', Sep c g h' (.lp n lo zb tq :: Γ) → R (.bool b) h') : jq lo n zb tq b R h := ⟨⟨st, pd, S.dr _ List.mem_cons_self⟩, k _ (S.H7 _ _)⟩
theorem Sep.jo {K : W} : ∀ {d : List Nat} {h : AH}, Sep c g h (.ds d :: Γ) → (∀ h', Sep c g h' Γ → K h') → Go.Ve.jo d K h
 | [], h, S, k => k h S.drop
 | r :: d, h, S, k => by
  have H : ∀ x ∈ r :: d, h.ob.get x = some (.defs false) := S.dr _ List.mem_cons_self
  have hr := H r List.mem_cons_self
  have hn := AH.lt_of_get S.ok hr
  have nd : (r :: d).Nodup := by have := S.nd; rw [List.flatMap_cons] at this; exact (List.nodup_append.1 this).1
  refine ⟨hr, Sep.jo (d := d) (S.change _ (AH.GD S.ok hn _) (Nat.le_refl _) (fun f _ hf => ?_) (fun x hx => ?_) (List.nodup_cons.1 nd).2 (fun b hb => ?_)) k⟩
  · rw [AH.rz, if_neg (fun e => hf (by subst e; exact List.mem_cons_self))]
  · rw [AH.rz, if_neg (fun e => by subst e; exact (List.nodup_cons.1 nd).1 hx)]; exact H x (List.mem_cons_of_mem _ hx)
  · have bP : b ∈ d := hb
    exact ⟨AH.lt_of_get S.ok (H b (List.mem_cons_of_mem _ bP)), .inr (List.mem_cons_of_mem _ bP)⟩
theorem Sep.QL (S : Sep c g h Γ) : Sep c g h (.ds [] :: Γ) := S.add _ S.ok (Nat.le_refl _) (fun _ _ => rfl) (fun r hr => by simp at hr) (by simp [Ob.bj]) (fun b hb => by simp [Ob.bj] at hb)
theorem QM {α σ : Type} {P : Program} {w0 : World} {fv : Value} {ca : α → List Value} {l : List α} {d : List Nat} {B : LO → Nat → List Value → (Value → W) → W} {E : Nat → Value → W} {K : Nat → Option Code → W} (bM : σ → α → Option (σ × Fl)) (D : σ → AH → AH → List Ob → Prop) {s0 : σ} {r : σ × Fl}
 (It : ue P w0 g fv ca l)
 (hD : ∀ s g h Γ g' h', D s g h Γ → Sub g g' → D s g' h' Γ)
 (S : Sep c g h (.ds d :: Γ)) (D0 : D s0 g h Γ) (M : oS bM l s0 = some r)
 (body : ∀ (lo : LO) (n q : Nat) (s : σ) (x : α) (s' : σ) (f : Fl) (R : Value → W) (g2 h2 : AH) (Γ2 : List Ob), Sub g g2 → Sep c g2 h2 (.lp n lo .ready none :: .ds (q :: d) :: Γ2) → D s g2 h2 Γ2 → bM s x = some (s', f) →
  (∀ g3 h3 Γ3, Sub g2 g3 → Sep c g3 h3 (.lp n lo f.st f.pd :: .ds (q :: d) :: Γ3) → D s' g3 h3 Γ3 → R (.bool f.on) h3) → B lo n (ca x) R h2)
 (fin : ∀ (q : Nat) (g2 h2 : AH) (Γ2 : List Ob), Sub g g2 → Sep c g2 h2 (.ds (q :: d) :: Γ2) → D r.1 g2 h2 Γ2 → K q r.2.pd h2) : xm P w0 fv B E K h := by
 obtain ⟨_, id, first, bD, rfl, It⟩ := It
 show OE P w0 id first bD B (E h.nx) (K h.nx) (h.dR (.defs false))
 intro lo hB
 have S1 : Sep c g (h.dR (.defs false)) (.ds (h.nx :: d) :: Γ) := by
  have H : ∀ x ∈ d, h.ob.get x = some (.defs false) := S.dr _ List.mem_cons_self
  have nd : d.Nodup := by have := S.nd; rw [List.flatMap_cons] at this; exact (List.nodup_append.1 this).1
  refine S.change _ (AH.yu S.ok _) (Nat.le_succ _) (fun f hf _ => (cU.dR h _).get f hf) (fun x hx => ?_) ?_ (fun b hb => ?_)
  · rcases List.mem_cons.1 hx with rfl | hx
    · rw [AH.pZ, if_pos rfl]
    · have := AH.lt_of_get S.ok (H x hx)
      rw [AH.pZ, if_neg (by omega)]; exact H x hx
  · exact List.nodup_cons.2 ⟨fun hm => by have := AH.lt_of_get S.ok (H _ hm); omega, nd⟩
  · rcases List.mem_cons.1 hb with rfl | hb
    · exact ⟨Nat.lt_succ_self _, .inl (Nat.le_refl _)⟩
    · exact ⟨Nat.lt_succ_of_lt (AH.lt_of_get S.ok (H b hb)), .inr hb⟩
 have S2 : Sep c g ((h.dR (.defs false)).dR (lo .ready none)) (.lp (h.dR (.defs false)).nx lo .ready none :: .ds (h.nx :: d) :: Γ) := by
  refine S1.add _ (AH.yu S1.ok _) (Nat.le_succ _) (cU.dR _ _).get ?_ (by simp [Ob.bj]) (fun b hb => by simp [Ob.bj] at hb; subst hb; exact ⟨Nat.lt_succ_self _, Nat.le_refl _⟩)
  show ((h.dR (.defs false)).dR (lo .ready none)).ob.get _ = _
  rw [AH.pZ, if_pos rfl]
 have D2 : D s0 g ((h.dR (.defs false)).dR (lo .ready none)) Γ := hD s0 g h Γ g _ D0 (.refl g)
 generalize hn : (h.dR (.defs false)).nx = n at *
 generalize (h.dR (.defs false)).dR (lo .ready none) = h2 at *
 refine It _ (fun i g2 hh => ∃ s Γ2, Sub g g2 ∧ Sep c g2 hh (.lp n lo .ready none :: .ds (h.nx :: d) :: Γ2) ∧ D s g2 hh Γ2 ∧ oS bM (l.drop i) s = some r)
  (fun hh => ∃ g2 Γ2, Sub g g2 ∧ Sep c g2 hh (.lp n lo r.2.st r.2.pd :: .ds (h.nx :: d) :: Γ2) ∧ D r.1 g2 hh Γ2) _ g h2 (.refl g) ?_ ?_ ?_ ⟨s0, Γ, .refl _, S2, D2, by rw [List.drop_zero]; exact M⟩ ?_ ?_
 · rintro i g2 ha g3 hb ⟨s, Γ2, h1, h3, h4, h5⟩ S'
   exact ⟨s, Γ2, h1.trans S'.bX, h3.call S', hD s g2 ha Γ2 g3 hb h4 S'.bX, h5⟩
 · rintro i g2 ha ⟨s, Γ2, h1, h3, h4, h5⟩
   exact ⟨h3.sub, h3.ok⟩
 · rintro i x g2 ha E K' hx ⟨s, Γ2, h1, h3, h4, h5⟩ kt kf
   have hi : i < l.length := (List.getElem?_eq_some_iff.1 hx).1
   have hd : l.drop i = x :: l.drop (i + 1) := by
    rw [List.drop_eq_getElem_cons hi]; congr 1; rw [List.getElem?_eq_getElem hi] at hx; exact Option.some.inj hx
   rw [hd] at h5
   unfold oS at h5
   obtain ⟨⟨s', f⟩, h6, h7⟩ := bind_some h5
   refine WR.mono (fun rr hh hr => ?_) (hB n (ca x) K' ha (body lo n h.nx s x s' f K' g2 ha Γ2 h1 h3 h4 h6 fun g3 Ai Γ3 a1 a2 a3 => ?_))
   · cases rr with
     | ret v => exact hr
     | aN v => exact hr.elim
   · cases f with
     | go => exact kt g3 _ a1 ⟨s', Γ3, h1.trans a1, a2, a3, h7⟩
     | ret => cases h7; exact kf _ ⟨g3, Γ3, h1.trans a1, a2, a3⟩
     | ex m => cases h7; exact kf _ ⟨g3, Γ3, h1.trans a1, a2, a3⟩
 · rintro v g2 hh sg ⟨s, Γ2, h1, h3, h4, h5⟩
   rw [List.drop_length] at h5
   cases h5
   refine ⟨.ready, none, h3.dr _ List.mem_cons_self, rfl, ?_⟩
   exact fin h.nx g2 _ Γ2 h1 (h3.H7 .exhausted none).drop (hD _ g2 hh Γ2 g2 _ h4 (.refl _))
 · rintro v hh ⟨g2, Γ2, h1, h3, h4⟩
   refine ⟨r.2.st, r.2.pd, h3.dr _ List.mem_cons_self, by cases r.2 <;> rfl, ?_⟩
   exact fin h.nx g2 _ Γ2 h1 (h3.H7 .exhausted r.2.pd).drop (hD _ g2 hh Γ2 g2 _ h4 (.refl _))
end
end
end Go.Ve
namespace Go.Ve
open Go.RowKit
section
variable {c : Cx} {g h g' h' : AH} {Γ : List Ob} {o : Ob}
theorem Sep.f1 {a0 a1 : Ob} (S : Sep c g h (a0 :: a1 :: Γ)) : Sep c g h (a1 :: a0 :: Γ) := S.front 1 rfl rfl
theorem Sep.f2 {a0 a1 a2 : Ob} (S : Sep c g h (a0 :: a1 :: a2 :: Γ)) : Sep c g h (a2 :: a0 :: a1 :: Γ) := S.front 2 rfl rfl
theorem Sep.f3 {a0 a1 a2 a3 : Ob} (S : Sep c g h (a0 :: a1 :: a2 :: a3 :: Γ)) : Sep c g h (a3 :: a0 :: a1 :: a2 :: Γ) := S.front 3 rfl rfl
theorem Sep.f4 {a0 a1 a2 a3 a4 : Ob} (S : Sep c g h (a0 :: a1 :: a2 :: a3 :: a4 :: Γ)) : Sep c g h (a4 :: a0 :: a1 :: a2 :: a3 :: Γ) := S.front 4 rfl rfl
theorem Sep.f5 {a0 a1 a2 a3 a4 a5 : Ob} (S : Sep c g h (a0 :: a1 :: a2 :: a3 :: a4 :: a5 :: Γ)) : Sep c g h (a5 :: a0 :: a1 :: a2 :: a3 :: a4 :: Γ) := S.front 5 rfl rfl
theorem Sep.f6 {a0 a1 a2 a3 a4 a5 a6 : Ob} (S : Sep c g h (a0 :: a1 :: a2 :: a3 :: a4 :: a5 :: a6 :: Γ)) : Sep c g h (a6 :: a0 :: a1 :: a2 :: a3 :: a4 :: a5 :: Γ) := S.front 6 rfl rfl
theorem Sep.f7 {a0 a1 a2 a3 a4 a5 a6 a7 : Ob} (S : Sep c g h (a0 :: a1 :: a2 :: a3 :: a4 :: a5 :: a6 :: a7 :: Γ)) : Sep c g h (a7 :: a0 :: a1 :: a2 :: a3 :: a4 :: a5 :: a6 :: Γ) := S.front 7 rfl rfl
theorem Sep.f8 {a0 a1 a2 a3 a4 a5 a6 a7 a8 : Ob} (S : Sep c g h (a0 :: a1 :: a2 :: a3 :: a4 :: a5 :: a6 :: a7 :: a8 :: Γ)) : Sep c g h (a8 :: a0 :: a1 :: a2 :: a3 :: a4 :: a5 :: a6 :: a7 :: Γ) := S.front 8 rfl rfl
theorem Sep.f9 {a0 a1 a2 a3 a4 a5 a6 a7 a8 a9 : Ob} (S : Sep c g h (a0 :: a1 :: a2 :: a3 :: a4 :: a5 :: a6 :: a7 :: a8 :: a9 :: Γ)) : Sep c g h (a9 :: a0 :: a1 :: a2 :: a3 :: a4 :: a5 :: a6 :: a7 :: a8 :: Γ) := S.front 9 rfl rfl
theorem Sep.f10 {a0 a1 a2 a3 a4 a5 a6 a7 a8 a9 Zs : Ob} (S : Sep c g h (a0 :: a1 :: a2 :: a3 :: a4 :: a5 :: a6 :: a7 :: a8 :: a9 :: Zs :: Γ)) : Sep c g h (Zs :: a0 :: a1 :: a2 :: a3 :: a4 :: a5 :: a6 :: a7 :: a8 :: a9 :: Γ) := S.front 10 rfl rfl
theorem Sep.t0 (S : Sep c g h Γ) : Sep c g h [] := S.bB
theorem Sep.t1 {a0 : Ob} (S : Sep c g h (a0 :: Γ)) : Sep c g h [a0] := S.take 1
theorem Sep.t2 {a0 a1 : Ob} (S : Sep c g h (a0 :: a1 :: Γ)) : Sep c g h [a0, a1] := S.take 2
theorem Sep.t3 {a0 a1 a2 : Ob} (S : Sep c g h (a0 :: a1 :: a2 :: Γ)) : Sep c g h [a0, a1, a2] := S.take 3
theorem Sep.t4 {a0 a1 a2 a3 : Ob} (S : Sep c g h (a0 :: a1 :: a2 :: a3 :: Γ)) : Sep c g h [a0, a1, a2, a3] := S.take 4
theorem Sep.t5 {a0 a1 a2 a3 a4 : Ob} (S : Sep c g h (a0 :: a1 :: a2 :: a3 :: a4 :: Γ)) : Sep c g h [a0, a1, a2, a3, a4] := S.take 5
theorem Sep.t8 {a0 a1 a2 a3 a4 a5 a6 a7 : Ob} (S : Sep c g h (a0 :: a1 :: a2 :: a3 :: a4 :: a5 :: a6 :: a7 :: Γ)) : Sep c g h [a0, a1, a2, a3, a4, a5, a6, a7] := S.take 8
theorem Sep.t10 {a0 a1 a2 a3 a4 a5 a6 a7 a8 a9 : Ob} (S : Sep c g h (a0 :: a1 :: a2 :: a3 :: a4 :: a5 :: a6 :: a7 :: a8 :: a9 :: Γ)) : Sep c g h [a0, a1, a2, a3, a4, a5, a6, a7, a8, a9] := S.take 10
theorem Sep.mc (S : Sep c g h Γ) (S1 : Sep ⟨g, h, []⟩ g' h' []) : Sep c g' h' Γ := S.call S1
end
end Go.Ve
namespace Go.Ve
open Go.RowKit
open Classical
noncomputable section
def eb (l : List Int) : Prop := l.Pairwise (· < ·)
def jh (x : Int) : List Int → List Int
 | [] => [x]
 | y :: l => bif decide (x < y) then x :: y :: l else bif decide (x = y) then y :: l else y :: jh x l
theorem CG {x z : Int} : ∀ {l : List Int}, z ∈ jh x l ↔ z = x ∨ z ∈ l
 | [] => by simp [jh]
 | y :: l => by
  unfold jh
  by_cases h1 : x < y
  · rw [decide_eq_true h1]; simp
  · rw [decide_eq_false h1]
    by_cases h2 : x = y
    · rw [decide_eq_true h2]; subst h2; simp
    · rw [decide_eq_false h2]
      show z ∈ y :: jh x l ↔ _
      rw [List.mem_cons, CG, List.mem_cons]
      constructor
      · rintro (h | h | h) <;> simp [h]
      · rintro (h | h | h) <;> simp [h]
theorem CH {x : Int} : ∀ {l : List Int}, eb l → eb (jh x l)
 | [], _ => by simp [jh, eb]
 | y :: l, h => by
  have h' := List.pairwise_cons.1 h
  unfold jh
  by_cases h1 : x < y
  · rw [decide_eq_true h1]
    exact List.pairwise_cons.2 ⟨fun z hz => by
     rcases List.mem_cons.1 hz with rfl | hz
     · exact h1
     · exact Int.lt_trans h1 (h'.1 z hz), h⟩
  · rw [decide_eq_false h1]
    by_cases h2 : x = y
    · rw [decide_eq_true h2]; exact h
    · rw [decide_eq_false h2]
      exact List.pairwise_cons.2 ⟨fun z hz => by
       rcases CG.1 hz with rfl | hz
       · omega
       · exact h'.1 z hz, CH h'.2⟩
theorem eb.nd {l : List Int} (h : eb l) : l.Nodup := h.imp fun h => by omega
theorem eb.ext : ∀ {l m : List Int}, eb l → eb m → (∀ x, x ∈ l ↔ x ∈ m) → l = m
 | [], [], _, _, _ => rfl
 | [], y :: m, _, _, h => absurd ((h y).2 List.mem_cons_self) (by simp)
 | x :: l, [], _, _, h => absurd ((h x).1 List.mem_cons_self) (by simp)
 | x :: l, y :: m, hl, hm, h => by
  have fP := List.pairwise_cons.1 hl
  have nu := List.pairwise_cons.1 hm
  have e : x = y := by
   rcases List.mem_cons.1 ((h x).1 List.mem_cons_self) with e | hx
   · exact e
   · rcases List.mem_cons.1 ((h y).2 List.mem_cons_self) with e | hy
     · exact e.symm
     · have := nu.1 x hx; have := fP.1 y hy; omega
  subst e
  refine congrArg (x :: ·) (eb.ext fP.2 nu.2 fun z => ⟨fun hz => ?_, fun hz => ?_⟩)
  · rcases List.mem_cons.1 ((h z).1 (List.mem_cons_of_mem _ hz)) with rfl | lR
    · have := fP.1 z hz; omega
    · exact lR
  · rcases List.mem_cons.1 ((h z).2 (List.mem_cons_of_mem _ hz)) with rfl | lR
    · have := nu.1 z hz; omega
    · exact lR
theorem ajM {x : Int} {l : List Int} (h : eb l) (hx : x ∈ l) : jh x l = l := eb.ext (CH h) h fun z => by
 rw [CG]; exact ⟨fun hz => hz.elim (fun e => e ▸ hx) id, .inr⟩
theorem ajN {l m : List Int} (hl : l.Nodup) (hm : m.Nodup) (h : ∀ x, x ∈ l ↔ x ∈ m) : l.Perm m := (List.perm_ext_iff_of_nodup hl hm).2 h
theorem ajO {x : Int} {l : List Int} (h : eb l) (hx : x ∉ l) : (jh x l).Perm (x :: l) := ajN (CH h).nd (List.nodup_cons.2 ⟨hx, h.nd⟩) fun z => by rw [CG, List.mem_cons]
def fh (xs l : List Int) : List Int := xs.foldl (fun l x => jh x l) l
theorem yX {z : Int} : ∀ {xs l : List Int}, z ∈ fh xs l ↔ z ∈ xs ∨ z ∈ l
 | [], l => by simp [fh]
 | x :: xs, l => by
  show z ∈ fh xs (jh x l) ↔ _
  rw [yX, CG, List.mem_cons]
  constructor
  · rintro (h | h | h) <;> simp [h]
  · rintro ((h | h) | h) <;> simp [h]
theorem yY : ∀ {xs l : List Int}, eb l → eb (fh xs l)
 | [], _, h => h
 | _ :: xs, _, h => yY (xs := xs) (CH h)
theorem ajP {xs ys l : List Int} (h : eb l) (p : ∀ x, x ∈ xs ↔ x ∈ ys) : fh xs l = fh ys l := eb.ext (yY h) (yY h) fun z => by rw [yX, yX, p]
structure jG (es : List (Value × Value × Nat)) (cl : Nat) (l : List Int) : Prop where
 ks : ∃ ks : List Int, ks.Perm l ∧ es.map (fun e => (e.1, e.2.1)) = ks.map fun k => (vi k, Value.bool true)
 lE : eb l
 st : (es.map fun e => e.2.2).Nodup
 lt : ∀ e ∈ es, e.2.2 < cl
theorem jG.nil : jG [] 0 [] := ⟨⟨[], .refl _, rfl⟩, .nil, .nil, fun e h => by simp at h⟩
theorem jG.len {es : List (Value × Value × Nat)} {cl : Nat} {l : List Int} (H : jG es cl l) : es.length = l.length := by
 obtain ⟨ks, h1, h2⟩ := H.ks
 rw [← h1.length_eq]
 simpa using congrArg List.length h2
theorem ajQ (x y : Int) : lh 0 (vi x) (vi y) = some (decide (x = y)) := by
 rw [← Gp]; rfl
theorem Zt {x : Int} : ∀ {es : List (Value × Value × Nat)} {ks : List Int} {cl : Nat}, es.map (fun e => (e.1, e.2.1)) = ks.map (fun k => (vi k, Value.bool true)) →
 (x ∈ ks → ∀ k, nn 0 es (vi x) (.bool true) cl k = k es cl) ∧ (x ∉ ks → ∀ k, nn 0 es (vi x) (.bool true) cl k = k (es ++ [(vi x, .bool true, cl)]) (cl + 1))
 | [], [], cl, _ => ⟨fun h => by simp at h, fun _ k => by show fN (Nat.succ cl) _ = _; rw [bT]; rfl⟩
 | [], _ :: _, _, h => by simp at h
 | _ :: _, [], _, h => by simp at h
 | (a, v, n) :: es, b :: ks, cl, h => by
  simp only [List.map_cons, List.cons.injEq, Prod.mk.injEq] at h
  obtain ⟨⟨rfl, rfl⟩, ht⟩ := h
  have he : ∀ k, nn 0 ((vi b, .bool true, n) :: es) (vi x) (.bool true) cl k = bif decide (x = b) then k ((vi x, .bool true, n) :: es) cl else nn 0 es (vi x) (.bool true) cl (fun cn iO => k ((vi b, .bool true, n) :: cn) iO) := fun k => by
   show (match lh 0 (vi x) (vi b) with | some true => k ((vi x, .bool true, n) :: es) cl | some false => nn 0 es (vi x) (.bool true) cl (fun cn iO => k ((vi b, .bool true, n) :: cn) iO) | none => false) = _
   rw [ajQ]
   cases decide (x = b) <;> rfl
  obtain ⟨h1, h2⟩ := Zt (x := x) (cl := cl) ht
  by_cases hx : x = b
  · subst hx
    refine ⟨fun _ k => by rw [he, decide_eq_true rfl]; rfl, fun hn => absurd List.mem_cons_self hn⟩
  · refine ⟨fun hm k => ?_, fun hn k => ?_⟩
    · rw [he, decide_eq_false hx]; exact h1 ((List.mem_cons.1 hm).resolve_left hx) _
    · rw [he, decide_eq_false hx]; exact h2 (fun h => hn (List.mem_cons_of_mem _ h)) _
theorem jG.iK {es : List (Value × Value × Nat)} {cl : Nat} {l : List Int} (H : jG es cl l) (x : Int) : ∃ cn iO, jG cn iO (jh x l) ∧ ∀ k, nn 0 es (vi x) (.bool true) cl k = k cn iO := by
 obtain ⟨ks, h1, h2⟩ := H.ks
 obtain ⟨u1, u2⟩ := Zt (x := x) (cl := cl) h2
 by_cases hx : x ∈ ks
 · refine ⟨es, cl, ?_, u1 hx⟩
   rw [ajM H.lE (h1.mem_iff.1 hx)]
   exact H
 · refine ⟨_, _, ⟨⟨ks ++ [x], ?_, by simp [h2]⟩, CH H.lE, ?_, fun e he => ?_⟩, u2 hx⟩
   · exact (List.perm_append_comm.trans (List.Perm.cons x h1)).trans (ajO H.lE fun h => hx (h1.mem_iff.2 h)).symm
   · rw [List.map_append]
     refine List.nodup_append.2 ⟨H.st, by simp, fun a ha b hb => ?_⟩
     obtain ⟨e, he, rfl⟩ := List.mem_map.1 ha
     simp at hb
     have := H.lt e he
     omega
   · rcases List.mem_append.1 he with he | he
     · have := H.lt e he; omega
     · simp at he; subst he; exact Nat.lt_succ_self _
def im (g : AH) (v : Value) (l : List Int) : Prop := (v = .map none ∧ l = []) ∨ ∃ b es cl, v = .map (some b) ∧ g.ob.get b = some (.map es cl) ∧ jG es cl l
theorem im.nil {g : AH} : im g (.map none) [] := .inl ⟨rfl, rfl⟩
theorem im.mono {g g' : AH} {v : Value} {l : List Int} (H : im g v l) (S : Sub g g') : im g' v l := by
 rcases H with h | ⟨b, es, cl, h1, h2, h3⟩
 · exact .inl h
 · exact .inr ⟨b, es, cl, h1, S.get _ _ h2, h3⟩
theorem im.one {g : AH} {v : Value} {l : List Int} (H : im g v l) : dZ v = true := by
 rcases H with ⟨rfl, _⟩ | ⟨b, es, cl, rfl, _⟩ <;> rfl
theorem im.lE {g : AH} {v : Value} {l : List Int} (H : im g v l) : eb l := by
 rcases H with ⟨_, rfl⟩ | ⟨b, es, cl, _, _, h⟩
 · exact .nil
 · exact h.lE
def gI : fF (List Int) := fun g vs x => ∃ v, vs = [v] ∧ im g v x
theorem rQ : oP gI := fun _ _ _ _ S ⟨v, h1, h2⟩ => ⟨v, h1, h2.mono S⟩
section
variable {c : Cx} {g h : AH} {Γ : List Ob} {R : Value → AH → Prop} {b cl : Nat} {es : List (Value × Value × Nat)} {l : List Int}
theorem CI {r : Nat} (hr : h.ob.get r = some (.map es cl)) (k : List (Value × Value × Nat) → Nat → Bool) : jA h r k = k es cl := by
 unfold jA; rw [tl hr]
theorem Qz {it : Nat} {m : Option Nat} {since last : Nat} {seen : List Nat} (hi : h.ob.get it = some (.eC m since seen last)) (k : Option Nat → Nat → List Nat → Nat → Bool) : sT h it k = k m since seen last := by
 unfold sT; rw [tl hi]
theorem Sep.smk (S : Sep c g h Γ) (K : ∀ b h', Sep c g h' (.mp b [] 0 :: Γ) → jG [] 0 [] → R (.map (some b)) h') : WP .mkMap [] h R :=
 agn.2 (K _ _ (S.add _ (AH.yu S.ok _) (Nat.le_succ _) (cU.dR h _).get (by show (h.dR _).ob.get h.nx = _; rw [AH.pZ, if_pos rfl]) (by simp [Ob.bj]) (fun b hb => by simp [Ob.bj] at hb; subst hb; exact ⟨Nat.lt_succ_self _, Nat.le_refl _⟩)) jG.nil)
theorem Sep.Zu {x : Int} (S : Sep c g h (.mp b es cl :: Γ)) (A : jG es cl l) (K : ∀ cn iO h', Sep c g h' (.mp b cn iO :: Γ) → jG cn iO (jh x l) → R undef h') : WP (.pv 0) [.map (some b), vi x, .bool true] h R := by
 have hb : h.ob.get b = some (.map es cl) := S.dr _ List.mem_cons_self
 have hn := AH.lt_of_get S.ok hb
 obtain ⟨cn, iO, h1, h2⟩ := A.iK x
 have key : ∀ k : KV, (Prim.pv 0).ev [.map (some b), vi x, .bool true] h k = k undef (h.ly b (.map cn iO)) := fun k => by
  show iff (z8 0 (vi x)) (jA h b fun es cl => nn 0 es (vi x) (.bool true) cl fun es cl => fM h b (some (.map es cl)) fun h => k undef h) = _
  rw [CI hb, h2, yw]; rfl
 refine (cP key).2 (K cn iO _ ?_ h1)
 refine S.change _ (AH.GD S.ok hn _) (Nat.le_refl _) (fun f _ hf => ?_) ?_ (by simp [Ob.bj]) (fun b' bP => by simp [Ob.bj] at bP; subst bP; exact ⟨hn, .inr (by simp [Ob.bj])⟩)
 · rw [AH.rz, if_neg (by simpa [Ob.bj] using hf)]
 · show (h.ly b (.map cn iO)).ob.get b = _
   rw [AH.rz, if_pos rfl]
theorem ajR (hb : h.ob.get b = some (.map es cl)) (A : jG es cl l) (K : R (vi (l.length : Int)) h) : WP .xq [.map (some b)] h R := by
 have key : ∀ k : KV, Prim.xq.ev [.map (some b)] h k = k (vi (l.length : Int)) h := fun k => by
  show jA h b (fun es _ => fN es.length fun n => k (.int .i64 (.ofNat n)) h) = _
  rw [CI hb, bT, A.len]; rfl
 exact (cP key).2 K
theorem Sep.Zv {v : Value} (S : Sep c g h Γ) (M : im g v l) (K : R (vi (l.length : Int)) h) : WP .xq [v] h R := by
 rcases M with ⟨rfl, rfl⟩ | ⟨b, es, cl, rfl, h2, h3⟩
 · exact (cP (R := R) (h := h) (h' := h) (v := vi 0) fun k => by rfl).2 K
 · exact ajR (S.sub.get _ _ h2) h3 K
theorem Sep.ajS (S : Sep c g h (.mp b es cl :: Γ)) (A : jG es cl l) : ∃ g', Sub g g' ∧ Sep c g' h Γ ∧ im g' (.map (some b)) l := by
 obtain ⟨h1, h2, h3⟩ := S.freeze (b := b) rfl
 exact ⟨_, h1, h2, .inr ⟨b, es, cl, rfl, h3.trans (S.dr _ List.mem_cons_self), A⟩⟩
end
section
variable {c : Cx} {g h : AH} {Γ : List Ob}
theorem Sep.ajT {α : Type} {rep : fF α} {ty : TypeId} {sz : Nat} {v : Value} {ls : List (List Value)} {l : List α} (S : Sep c g h (.sl ty sz v ls :: Γ)) (A : aJ (rep g) ls l) (hm : oP rep) :
    ∃ g', Sub g g' ∧ Sub g' h ∧ aa rep sz g' v l ∧ ∀ g2 h2, Sep ⟨g', h, []⟩ g2 h2 [] → Sep c g h2 (.sl ty sz v ls :: Γ) := by
  have O : dD h ty sz v ls := S.dr _ List.mem_cons_self
  obtain ⟨g', sg, S1, ajU, F⟩ : ∃ g', Sub g g' ∧ Sep c g' h Γ ∧ (∀ b ∈ dJ v, ∃ x, g'.ob.get b = some x ∧ h.ob.get b = some x) ∧ aa rep sz g' v l := by
    cases O with
    | nil => exact ⟨g, .refl g, S.drop, fun b hb => by simp [dJ] at hb, ⟨[], .nil, A⟩⟩
    | un b o n lo hi cc _ hn hb hg h1 h2 hr hs =>
      obtain ⟨k1, k2, k3⟩ := S.freeze (b := b) rfl
      exact ⟨_, k1, k2, fun b' bP => by
        have bP : b' = b := by simpa [dJ] using bP
        subst bP
        exact ⟨_, k3.trans hg, hg⟩, ⟨ls, .mk b o n _ ls hn ⟨hb, .inr rfl⟩ hs (rP k3 hr), A.mono fun x y hh => hm _ _ _ _ k1 hh⟩⟩
    | kn b o n cap lo hi bU cc _ hn hb hc hg h1 h2 hr hs =>
      obtain ⟨k1, k2, k3⟩ := S.freeze (b := b) rfl
      exact ⟨_, k1, k2, fun b' bP => by
        have bP : b' = b := by simpa [dJ] using bP
        subst bP
        exact ⟨_, k3.trans hg, hg⟩, ⟨ls, .mk b o n cap ls hn ⟨by omega, .inl ⟨hb, hc⟩⟩ hs (rP k3 hr), A.mono fun x y hh => hm _ _ _ _ k1 hh⟩⟩
  refine ⟨g', sg, S1.sub, F, fun g2 h2 S2 => ?_⟩
  have S3 := S1.cW S2
  refine ⟨S.bX, sg.trans S3.sub, S3.ok, S3.nx, fun f h1 h2 => ⟨(S3.old f h1 h2).1, (S.old f h1 h2).2⟩, fun o ho => ?_, S.nd, fun b hb => ⟨Nat.lt_of_lt_of_le (S.own b hb).1 S2.nx, (S.own b hb).2⟩⟩
  rcases List.mem_cons.1 ho with rfl | ho
  · exact dD.yW O fun b hb => by
      obtain ⟨x, h1, h2⟩ := ajU b hb
      rw [h2]; exact S3.sub.get _ _ h1
  · exact S3.dr o ho
theorem Sep.ajV {α : Type} {rep : fF α} {ty : TypeId} {sz : Nat} {v : Value} {ls : List (List Value)} {l : List α} (S : Sep c g h (.sl ty sz v ls :: Γ)) (A : aJ (rep g) ls l) (hm : oP rep) :
    ∃ g', Sub g g' ∧ Sub g' h ∧ aa rep sz g' v l ∧ ∀ g2 h2, Sep ⟨g', h, []⟩ g2 h2 [] → ∃ g3, Sub g g3 ∧ Sep c g3 h2 (.sl ty sz v ls :: Γ) ∧ ∀ w s, im g2 w s → im g3 w s := by
  have O : dD h ty sz v ls := S.dr _ List.mem_cons_self
  have key : ∀ {b lo hi : Nat} {bU : TypeId} {cc : NT Value} (g' : AH), dJ v = [b] → h.ob.get b = some (.cells lo hi bU true cc) → Sub g g' → Sep c g' h Γ → g'.ob.get b = h.ob.get b →
      ∀ g2 h2, Sep ⟨g', h, []⟩ g2 h2 [] → ∃ g3, Sub g g3 ∧ Sep c g3 h2 (.sl ty sz v ls :: Γ) ∧ ∀ w s, im g2 w s → im g3 w s := fun {b lo hi bU cc} g' hb hg sg S1 hgb g2 h2 S2 => by
    have S3 : Sep c g2 h2 Γ := by
      have := S1.call S2
      rwa [List.nil_append] at this
    have wI : g.ob.get b = none := (S.own b (by rw [List.flatMap_cons]; exact List.mem_append_left _ (show b ∈ dJ v by rw [hb]; simp))).2.1
    have Zw : g2.ob.get b = some (.cells lo hi bU true cc) := S2.bX.get _ _ (hgb.trans hg)
    have kg : ∀ f, (g2.kill b).ob.get f = if f = b then none else g2.ob.get f := AH.GH g2 b
    have oR : Sub g g2 := sg.trans S2.bX
    have s3 : Sub g (g2.kill b) := ⟨oR.nx, fun f x hx => by
      rw [kg, if_neg (fun e => by subst e; rw [wI] at hx; cases hx)]
      exact oR.get f x hx⟩
    refine ⟨g2.kill b, s3, ⟨S.bX.trans s3, ⟨S3.sub.nx, fun f x hx => ?_⟩, S3.ok, S3.nx, fun f h1 h2 => ⟨(S3.old f h1 h2).1, fun hn => ?_⟩, fun o ho => ?_, S.nd, fun b' bP => ⟨Nat.lt_of_lt_of_le (S.own b' bP).1 S2.nx, ?_, (S.own b' bP).2.2⟩⟩, fun w s hM => ?_⟩
    · rw [kg] at hx
      split at hx
      · cases hx
      · exact S3.sub.get f x hx
    · rw [kg]
      split
      · rfl
      · exact (S3.old f h1 h2).2 hn
    · rcases List.mem_cons.1 ho with rfl | ho
      · exact dD.yW O fun b' bP => by
          rw [hb] at bP
          obtain rfl := List.mem_singleton.1 bP
          rw [hg]; exact S3.sub.get _ _ Zw
      · exact S3.dr o ho
    · rw [kg]
      split
      · rfl
      · rename_i cS
        rw [List.flatMap_cons] at bP
        rcases List.mem_append.1 bP with h3 | h3
        · have h3 : b' ∈ dJ v := h3
          rw [hb] at h3
          exact absurd (List.mem_singleton.1 h3) cS
        · exact (S3.own b' h3).2.1
    · rcases hM with hM | ⟨r, es, cl, e1, e2, e3⟩
      · exact .inl hM
      · refine .inr ⟨r, es, cl, e1, ?_, e3⟩
        rw [kg, if_neg (fun e => by subst e; rw [Zw] at e2; cases e2)]
        exact e2
  cases O with
  | nil =>
    refine ⟨g, .refl g, S.sub, ⟨[], .nil, A⟩, fun g2 h2 S2 => ⟨g2, S2.bX, ?_, fun _ _ h => h⟩⟩
    have := S.call S2
    rwa [List.nil_append] at this
  | un b o n lo hi cc _ hn hb hg h1 h2 hr hs =>
    obtain ⟨k1, k2, k3⟩ := S.freeze (b := b) rfl
    exact ⟨_, k1, k2.sub, ⟨ls, .mk b o n _ ls hn ⟨hb, .inr rfl⟩ hs (rP k3 hr), A.mono fun x y hh => hm _ _ _ _ k1 hh⟩, key _ rfl hg k1 k2 k3⟩
  | kn b o n cap lo hi bU cc _ hn hb hc hg h1 h2 hr hs =>
    obtain ⟨k1, k2, k3⟩ := S.freeze (b := b) rfl
    exact ⟨_, k1, k2.sub, ⟨ls, .mk b o n cap ls hn ⟨by omega, .inl ⟨hb, hc⟩⟩ hs (rP k3 hr), A.mono fun x y hh => hm _ _ _ _ k1 hh⟩, key _ rfl hg k1 k2 k3⟩
end
theorem Zx : ∀ (l : List Nat) (n : Nat) (k : List Nat → Bool), AZ l n k = k (l ++ [n])
 | [], _, _ => rfl
 | x :: l, n, k => Zx l n fun l' => k (x :: l')
theorem QA {since : Nat} {seen : List Nat} : ∀ {es : List (Value × Value × Nat)} {k : List (Value × Value × Nat) → Bool}, (∀ e ∈ es, e.2.2 < since) → re es since seen k = k (es.filter fun e => !decide (e.2.2 ∈ seen))
 | [], _, _ => rfl
 | e :: es, k, h => by
  have h1 : Nat.ble (Nat.succ e.2.2) since = true := Nat.ble_eq_true_of_le (h e List.mem_cons_self)
  have h2 : pN seen e.2.2 = decide (e.2.2 ∈ seen) := by rw [NV]; simp
  show iff (Nat.ble (Nat.succ e.2.2) since) (bif pN seen e.2.2 then re es since seen k else re es since seen fun l => k (e :: l)) = _
  rw [h1, h2]
  by_cases hm : e.2.2 ∈ seen
  · rw [decide_eq_true hm, List.filter_cons, decide_eq_true hm]
    exact QA fun e he => h e (List.mem_cons_of_mem _ he)
  · rw [decide_eq_false hm, List.filter_cons, decide_eq_false hm]
    exact QA fun e he => h e (List.mem_cons_of_mem _ he)
theorem Zy {go : Value → Value → Nat → Bool} : ∀ {l : List (Value × Value × Nat)}, (∀ e ∈ l, go e.1 e.2.1 e.2.2 = true) → sU go l = true
 | [], _ => rfl
 | [(a, v, n)], h => h (a, v, n) List.mem_cons_self
 | (a, v, n) :: e :: l, h => by
  show iff (go a v n) (sU go (e :: l)) = true
  rw [iff_eq]
  exact ⟨h (a, v, n) List.mem_cons_self, Zy fun e he => h e (List.mem_cons_of_mem _ he)⟩
theorem Zz : ∀ (l : List Nat) (n : Nat) (k : Nat → Bool), vr (l ++ [n]) k = k n
 | [], _, _ => rfl
 | [x], _, _ => rfl
 | x :: y :: l, n, k => Zz (y :: l) n k
theorem ZA {a v : Value} {n : Nat} {k : Value → Value → Bool} : ∀ {es : List (Value × Value × Nat)}, (a, v, n) ∈ es → (es.map fun e => e.2.2).Nodup → sV es n k = k a v
  | (a', v', n') :: es, hm, nd => by
    have mT := List.nodup_cons.1 nd
    show (bif Nat.beq n' n then k a' v' else sV es n k) = _
    rcases List.mem_cons.1 hm with e | hm
    · cases e
      rw [Nat.beq_refl]; rfl
    · have : Nat.beq n' n = false := by
        cases hb : Nat.beq n' n with
        | false => rfl
        | true =>
          have e := Nat.eq_of_beq_eq_true hb
          subst e
          exact absurd (List.mem_map.2 ⟨_, hm, rfl⟩) mT.1
      rw [this]
      exact ZA hm mT.2
section
variable {h : AH} {R : Value → AH → Prop} {it r cl : Nat} {es : List (Value × Value × Nat)} {seen : List Nat}
theorem ZB (fD : h.ob.get it = some (.eC (some r) cl seen cl)) (hr : h.ob.get r = some (.map es cl)) (hl : ∀ e ∈ es, e.2.2 < cl)
 (K1 : ∀ e ∈ es, e.2.2 ∉ seen → R (.tuple ⟨[.bool true, e.1, e.2.1]⟩) (h.ly it (.eC (some r) cl (seen ++ [e.2.2]) cl)))
 (K0 : (∀ e ∈ es, e.2.2 ∈ seen) → R (.tuple ⟨[.bool false]⟩) (h.kill it)) : WP (.x .uI) [aC it 0] h R := by
 intro k hk
 show sT h it (fun m since seen last => Option.casesOn (motive := fun _ => Bool) m (k (.tuple ⟨[.bool false]⟩) h) fun r =>
  jA h r fun es cl => iff (Nat.beq cl since && Nat.beq last since) (re es since seen (FN h it r since seen k))) = true
 rw [Qz fD]
 show jA h r (fun es iO => iff (Nat.beq iO cl && Nat.beq cl cl) (re es cl seen (FN h it r cl seen k))) = true
 rw [CI hr, Nat.beq_refl, QA hl]
 show FN h it r cl seen k _ = true
 have hm : ∀ e, e ∈ es.filter (fun e => !decide (e.2.2 ∈ seen)) ↔ e ∈ es ∧ e.2.2 ∉ seen := fun e => by simp
 generalize es.filter (fun e => !decide (e.2.2 ∈ seen)) = l at hm
 cases l with
 | nil =>
  show fM h it none (fun h => k (.tuple ⟨[.bool false]⟩) h) = true
  rw [XB]
  exact hk _ _ (K0 fun e he => Classical.byContradiction fun hn => by simpa using (hm e).2 ⟨he, hn⟩)
 | cons e0 l0 =>
  show sU (FM h it r cl seen k) (e0 :: l0) = true
  refine Zy fun e he => ?_
  obtain ⟨h1, h2⟩ := (hm e).1 he
  unfold FM
  rw [Zx, yw]
  exact hk _ _ (K1 e h1 h2)
theorem ajW {n : Nat} {a v : Value} (fD : h.ob.get it = some (.eC (some r) cl (seen ++ [n]) cl)) (hr : h.ob.get r = some (.map es cl)) (he : (a, v, n) ∈ es) (nd : (es.map fun e => e.2.2).Nodup) (K : R (.tuple ⟨[a, v]⟩) h) :
 WP (.x .entry) [aC it 0] h R := by
 refine (cP (R := R) (h := h) (h' := h) (v := .tuple ⟨[a, v]⟩) fun k => ?_).2 K
 show sT h it (fun m _ seen last => Option.casesOn (motive := fun _ => Bool) m false fun r =>
  jA h r fun es cl => iff (Nat.beq cl last) (vr seen fun n => sV es n fun a v => k (.tuple ⟨[a, v]⟩) h)) = _
 rw [Qz fD]
 show jA h r (fun es iO => iff (Nat.beq iO cl) (vr (seen ++ [n]) fun n => sV es n fun a v => k (.tuple ⟨[a, v]⟩) h)) = _
 rw [CI hr, Nat.beq_refl, Zz, ZA he nd]
 rfl
end
def rR (e : Value × Value × Nat) : Int := match e.1 with
 | .int _ n => n
 | _ => 0
theorem jG.keys {es : List (Value × Value × Nat)} {cl : Nat} {l : List Int} (H : jG es cl l) : (es.map rR).Perm l ∧ ∀ e ∈ es, e.1 = vi (rR e) ∧ e.2.1 = .bool true := by
 obtain ⟨ks, h1, h2⟩ := H.ks
 have e1 : es.map rR = ks := by
  have : (es.map (fun e => (e.1, e.2.1))).map (fun p => match p.1 with | .int _ n => n | _ => (0 : Int)) = ks := by
   rw [h2, List.map_map]
   exact List.map_id' ks
  rw [List.map_map] at this
  exact this
 refine ⟨by rw [e1]; exact h1, fun e he => ?_⟩
 have hm : (e.1, e.2.1) ∈ ks.map fun k => (vi k, Value.bool true) := by rw [← h2]; exact List.mem_map.2 ⟨e, he, rfl⟩
 obtain ⟨k, _, hk⟩ := List.mem_map.1 hm
 obtain ⟨k1, k2⟩ := Prod.mk.inj hk
 unfold rR
 rw [← k1]
 exact ⟨rfl, k2.symm⟩
theorem QB {α β : Type} {f : α → β} : ∀ {l : List α}, (l.map f).Nodup → ∀ x ∈ l, ∀ y ∈ l, f x = f y → x = y
 | a :: l, nd, x, hx, y, hy, e => by
  have mT := List.nodup_cons.1 nd
  rcases List.mem_cons.1 hx with h1 | hx <;> rcases List.mem_cons.1 hy with h2 | hy
  · rw [h1, h2]
  · exact absurd (List.mem_map.2 ⟨y, hy, by rw [← e, h1]⟩) mT.1
  · exact absurd (List.mem_map.2 ⟨x, hx, by rw [e, h2]⟩) mT.1
  · exact QB mT.2 x hx y hy e
theorem ZC {α : Type} {l m : List α} (hl : l.Nodup) (hm : m.Nodup) (h : ∀ x ∈ l, x ∈ m) : (l ++ m.filter fun x => !decide (x ∈ l)).Perm m := by
 refine (List.perm_ext_iff_of_nodup (List.nodup_append.2 ⟨hl, hm.filter _, fun a ha b hb e => ?_⟩) hm).2 fun x => ?_
 · subst e; simp [ha] at hb
 · rw [List.mem_append, List.mem_filter]
   by_cases hx : x ∈ l
   · simp [hx, h x hx]
   · simp [hx]
theorem ajX {α : Type} {l m : List α} (hl : l.Nodup) (hm : m.Nodup) (h : ∀ x ∈ l, x ∈ m) (hn : m.length ≤ l.length) : l.Perm m := by
 have p := ZC hl hm h
 have e := p.length_eq
 rw [List.length_append] at e
 have : (m.filter fun x => !decide (x ∈ l)) = [] := List.length_eq_zero_iff.1 (by omega)
 rwa [this, List.append_nil] at p
theorem ZD {α : Type} {l m : List α} (hl : l.Nodup) (hm : m.Nodup) (h : ∀ x ∈ l, x ∈ m) : l.length ≤ m.length := by
 have := (ZC hl hm h).length_eq
 rw [List.length_append] at this
 omega
theorem QC {α β : Type} {f : α → β} : ∀ {l : List α}, (l.map f).Nodup → l.Nodup
 | [], _ => .nil
 | a :: l, nd => by
  have mT := List.nodup_cons.1 nd
  exact List.nodup_cons.2 ⟨fun h => mT.1 (List.mem_map.2 ⟨a, h, rfl⟩), QC mT.2⟩
section
variable {c : Cx} {g h : AH} {Γ : List Ob}
theorem Sep.unit {b : Nat} {a : AO} (S : Sep c g h (.raw b a :: Γ)) : Sep c g (h.kill b) Γ := by
 have hb : h.ob.get b = some a := S.dr _ List.mem_cons_self
 refine (S.change (.ds []) (AH.XA S.ok b) (Nat.le_refl _) (fun f _ hf => ?_) (fun r hr => by simp at hr) (by simp [Ob.bj]) (fun b hb => by simp [Ob.bj] at hb)).drop
 rw [AH.GH, if_neg (by simpa [Ob.bj] using hf)]
theorem Sep.ajY {b : Nat} {a : AO} (S : Sep c g h (.raw b a :: Γ)) (a' : AO) : Sep c g (h.ly b a') (.raw b a' :: Γ) := by
 have hb : h.ob.get b = some a := S.dr _ List.mem_cons_self
 have hn := AH.lt_of_get S.ok hb
 refine S.change _ (AH.GD S.ok hn _) (Nat.le_refl _) (fun f _ hf => ?_) ?_ (by simp [Ob.bj]) (fun b' bP => by simp [Ob.bj] at bP; subst bP; exact ⟨hn, .inr (by simp [Ob.bj])⟩)
 · rw [AH.rz, if_neg (by simpa [Ob.bj] using hf)]
 · show (h.ly b a').ob.get b = _
   rw [AH.rz, if_pos rfl]
theorem Sep.range {α : Type} {l : List Int} {v : Value} (S : Sep c g h Γ) (M : im g v l) {F : Value → (α → W) → α → W} {B : Value → (α → W) → α → W} {X : Value → α → W}
    (hF : ∀ it k a, F it k a = pr (.x .uI) [it] fun t => pr (.extract 0) [t] fun c => br c (B it k a) (X it a)) {a0 : α} (I : List Int → α → AH → List Ob → Prop) (h0 : I [] a0 g Γ)
    (step : ∀ (it : Value) (o : Ob) (k : α → W) (a : α) (g1 h1 : AH) (Γ1 : List Ob) (xs : List Int) (x : Int), I xs a g1 Γ1 → Sub g g1 → x ∈ l → x ∉ xs → Sep c g1 h1 (o :: Γ1) → (∀ R : Value → AH → Prop, R (.tuple ⟨[vi x, .bool true]⟩) h1 → WP (.x .entry) [it] h1 R) →
      (∀ a' g2 h2 Γ2, Sub g1 g2 → Sep c g2 h2 (o :: Γ2) → I (xs ++ [x]) a' g2 Γ2 → k a' h2) → B it k a h1)
    (fin : ∀ it a g1 h1 Γ1 xs, Sub g g1 → xs.Perm l → I xs a g1 Γ1 → Sep c g1 h1 Γ1 → X it a h1) : WP (.x .zN) [v] h fun it h => LP (F it) a0 h := by
  rcases M with ⟨rfl, rfl⟩ | ⟨r, es, cl, rfl, hr, A⟩
  · refine (cP (h := h) (h' := h.dR (.eC none 0 [] 0)) (v := aC h.nx 0) fun k => ?_).2 ⟨1, ?_⟩
    · show kL h (.eC none 0 [] 0) (fun b h => k (aC b 0) h) = _
      rw [Bw]
    · show F (aC h.nx 0) (eE (F (aC h.nx 0)) 0) a0 _
      rw [hF]
      have fD : (h.dR (.eC none 0 [] 0)).ob.get h.nx = some (.eC none 0 [] 0) := by rw [AH.pZ, if_pos rfl]
      refine (cP (h := h.dR (.eC none 0 [] 0)) (h' := h.dR (.eC none 0 [] 0)) (v := .tuple ⟨[.bool false]⟩) fun k => ?_).2 ((jC (v := .bool false) rfl).2 (show X (aC h.nx 0) a0 (h.dR (.eC none 0 [] 0)) from fin _ a0 g _ Γ [] (.refl g) (.refl _) h0 (S.ch (cU.dR h _) (AH.yu S.ok _))))
      show sT (h.dR (.eC none 0 [] 0)) h.nx _ = _
      rw [Qz fD]
  · have hrh : h.ob.get r = some (.map es cl) := S.sub.get _ _ hr
    have HZ := A.keys
    have knd : (es.map rR).Nodup := HZ.1.nodup_iff.2 A.lE.nd
    refine (cP (h := h) (h' := h.dR (.eC (some r) cl [] cl)) (v := aC h.nx 0) fun k => ?_).2 ⟨es.length + 1, ?_⟩
    · show jA h r (fun _ cl => kL h (.eC (some r) cl [] cl) fun b h => k (aC b 0) h) = _
      rw [CI hrh, Bw]
    · have S1 : Sep c g (h.dR (.eC (some r) cl [] cl)) (.raw h.nx (.eC (some r) cl [] cl) :: Γ) :=
        S.add _ (AH.yu S.ok _) (Nat.le_succ _) (cU.dR h _).get (by show (h.dR _).ob.get h.nx = _; rw [AH.pZ, if_pos rfl]) (by simp [Ob.bj]) (fun b hb => by simp [Ob.bj] at hb; subst hb; exact ⟨Nat.lt_succ_self _, Nat.le_refl _⟩)
      generalize h.nx = it at S1
      have key : ∀ (m : Nat) (mU : List (Value × Value × Nat)) (a : α) (g1 h1 : AH) (Γ1 : List Ob), mU.length + m = es.length → mU.Nodup → (∀ e ∈ mU, e ∈ es) → Sub g g1 → I (mU.map rR) a g1 Γ1 →
          Sep c g1 h1 (.raw it (.eC (some r) cl (mU.map fun e => e.2.2) cl) :: Γ1) → eE (F (aC it 0)) (m + 1) a h1 := by
        intro m
        induction m with
        | zero =>
          intro mU a g1 h1 Γ1 hlen H0 al sg hI S1
          show F (aC it 0) _ a h1
          rw [hF]
          have vp : mU.Perm es := ajX H0 (QC A.st) al (by omega)
          refine ZB (S1.dr _ List.mem_cons_self) (S1.sub.get _ _ (sg.get _ _ hr)) A.lt (fun e he hs => absurd (List.mem_map.2 ⟨e, vp.mem_iff.2 he, rfl⟩) hs) fun fj => (jC rfl).2 ?_
          exact fin _ a g1 _ Γ1 _ sg ((vp.map rR).trans HZ.1) hI S1.unit
        | succ m ih =>
          intro mU a g1 h1 Γ1 hlen H0 al sg hI S1
          show F (aC it 0) _ a h1
          rw [hF]
          refine ZB (S1.dr _ List.mem_cons_self) (S1.sub.get _ _ (sg.get _ _ hr)) A.lt (fun e he hs => (jC rfl).2 ?_) fun fj => (jC rfl).2 ?_
          · have ZE := HZ.2 e he
            have ZF : e ∉ mU := fun h => hs (List.mem_map.2 ⟨e, h, rfl⟩)
            have S2 := S1.ajY (.eC (some r) cl ((mU.map fun e => e.2.2) ++ [e.2.2]) cl)
            show B (aC it 0) _ a _
            refine step _ _ _ a g1 _ Γ1 (mU.map rR) (rR e) hI sg (HZ.1.mem_iff.1 (List.mem_map.2 ⟨e, he, rfl⟩)) (fun h => ?_) S2 (fun R hR => ?_) (fun a' g2 h2 Γ2 oR S3 hI2 => ?_)
            · obtain ⟨e', ZG, he2⟩ := List.mem_map.1 h
              exact ZF (QB knd e' (al e' ZG) e he he2 ▸ ZG)
            · refine ajW (a := e.1) (v := e.2.1) (n := e.2.2) (S2.dr _ List.mem_cons_self) (S2.sub.get _ _ (sg.get _ _ hr)) he A.st ?_
              rw [ZE.1, ZE.2]; exact hR
            · refine ih (mU ++ [e]) a' g2 h2 Γ2 (by rw [List.length_append]; simp; omega) ?_ ?_ (sg.trans oR) (by rw [List.map_append]; exact hI2) (by rw [List.map_append]; exact S3)
              · exact List.nodup_append.2 ⟨H0, by simp, fun x hx y hy e' => by simp at hy; subst hy; subst e'; exact ZF hx⟩
              · intro x hx
                rcases List.mem_append.1 hx with hx | hx
                · exact al x hx
                · simp at hx; subst hx; exact he
          · have hes : ∀ e ∈ es, e ∈ mU := fun e he => by
              obtain ⟨e', h1, h2⟩ := List.mem_map.1 (fj e he)
              exact QB A.st e' (al e' h1) e he h2 ▸ h1
            have := ZD (QC A.st) H0 hes
            omega
      exact key es.length [] a0 g _ Γ (by simp) .nil (fun e he => by simp at he) (.refl g) h0 S1
end
end
end Go.Ve
namespace Go.Ve.T
open Go.Ve Go.Proofs
noncomputable section
set_option maxRecDepth 10000
structure aq where
 aR : Int
 fA : Int
 fB : Int
 fC : Int
deriving DecidableEq
def aq.rep : fF aq := fun g vs x => vs = [(vi x.aR), (vi x.fA), (vi x.fB), (vi x.fC)]
theorem aq.mono : oP aq.rep := fun _ _ _ _ _ e => e
structure aB where
 dS : Int
 er : Int
 ew : Int
deriving DecidableEq
def aB.rep : fF aB := fun g vs x => vs = [(vi x.dS), (vi x.er), (vi x.ew)]
theorem aB.mono : oP aB.rep := fun _ _ _ _ _ e => e
structure ah where
 az : ByteArray
 aA : ByteArray
 fArgs : Int
 aw : Int
 ax : Int
 ab : List aq
 aD : List aB
deriving DecidableEq
def ah.rep : fF ah := fun g vs x => ∃ w1 w2 : Value, vs = [(.string x.az), (.string x.aA), (vi x.fArgs), (vi x.aw), (vi x.ax), w1, w2] ∧ aa aq.rep 4 g w1 x.ab ∧ aa aB.rep 3 g w2 x.aD
structure dP where
 e0 : Int
 e1 : Int
 e2 : Int
deriving DecidableEq
structure ec where
 e0 : Int
 e1 : Int
deriving DecidableEq
structure r8 where
 oW : ByteArray
 dK : dP
 jJ : Int
 cX : ec
 jK : Bool
 jY : Bool
deriving DecidableEq
structure cI where
 gW : dP
 uk : Int
 kR : ec
 ql : Bool
deriving DecidableEq
end
end Go.Ve.T
namespace Go.Ve.T
open Go.Ve Go.Proofs Go.ChangeShapes Go.WideShapes Go.ChangeAt Go.RowKit
section
variable {H : Type} {h : AH}
abbrev jX (h : AH) (t : TypeId) (cs : List Value) (d : DataW H) : Prop := AD PP h t cs d
theorem ahf {α : Type} (R : List Value → α → Prop) (Pr : α → Prop) : ∀ ls : List (List Value), (∀ y ∈ ls, ∃ x, R y x ∧ Pr x) → ∃ l, aJ R ls l ∧ ∀ x ∈ l, Pr x := by
 intro ls
 induction ls with
 | nil => intro _; exact ⟨[], aJ.nil, fun x hx => by cases hx⟩
 | cons y ls ih =>
  intro hh
  obtain ⟨x, h1, h2⟩ := hh y List.mem_cons_self
  obtain ⟨l, h3, h4⟩ := ih fun z hz => hh z (List.mem_cons_of_mem _ hz)
  refine ⟨x :: l, ⟨by rw [List.length_cons, List.length_cons, h3.1], fun i a c ha hc => ?_⟩, fun z hz => ?_⟩
  · cases i with
    | zero => simp at ha hc; rw [← ha, ← hc]; exact h1
    | succ i => exact h3.2 i a c (by simpa using ha) (by simpa using hc)
  · rcases List.mem_cons.1 hz with h | h
    · rw [h]; exact h2
    · exact h4 z h
theorem ahg {t : TypeId} {cs : List Value} {d : DataW H} (hu : PP.underlying t = some (.int .i64)) (A : jX h t cs d) : ∃ n, rI .i64 h cs n ∧ -9223372036854775808 ≤ n := by
 cases A with
 | int t k n bh hw =>
  rw [hu] at bh; cases bh
  refine ⟨n, rfl, ?_⟩
  have : IntKind.i64.min ≤ n ∧ n ≤ IntKind.i64.max := by
   simpa [Lit.wf] using hw
  have e : IntKind.i64.min = -9223372036854775808 := by decide
  omega
 | bool _ _ bh => rw [hu] at bh; cases bh
 | str _ _ bh => rw [hu] at bh; cases bh
 | lO _ _ bh => rw [hu] at bh; cases bh
 | sl _ _ _ _ _ _ _ _ _ bh => rw [hu] at bh; cases bh
 | struct _ _ _ _ bh => rw [hu] at bh; cases bh
 | arr _ _ _ _ _ bh => rw [hu] at bh; cases bh
theorem ahh {t : TypeId} {cs : List Value} {d : DataW H} (hu : PP.underlying t = some .string) (A : jX h t cs d) : ∃ s, cs = [.string s] := by
 cases A with
 | str t s bh => exact ⟨s, rfl⟩
 | bool _ _ bh => rw [hu] at bh; cases bh
 | int _ _ _ bh => rw [hu] at bh; cases bh
 | lO _ _ bh => rw [hu] at bh; cases bh
 | sl _ _ _ _ _ _ _ _ _ bh => rw [hu] at bh; cases bh
 | struct _ _ _ _ bh => rw [hu] at bh; cases bh
 | arr _ _ _ _ _ bh => rw [hu] at bh; cases bh
theorem Hr {α : Type} {rep : fF α} {sz : Nat} {t e : TypeId} {cs : List Value} {d : DataW H} (hu : PP.underlying t = some (.slice e)) (hz : PP.cellsOf e = sz) (Pr : α → Prop) (el : ∀ cs d, jX (H := H) h e cs d → ∃ x, rep h cs x ∧ Pr x) (A : jX h t cs d) : ∃ v l, cs = [v] ∧ aa rep sz h v l ∧ ∀ x ∈ l, Pr x := by
 cases A with
 | lO t e' bh => exact ⟨_, [], rfl, aa.nil, fun x hx => by cases hx⟩
 | sl t e' b o n cap fY rest cD bh hn hc gN hl lR hr he =>
  rw [hu] at bh; cases bh
  obtain ⟨l, h1, h2⟩ := ahf (rep h) Pr cD fun y hy => by
   obtain ⟨i, hi⟩ := List.getElem?_of_mem hy
   have bG : i < fY.length := by rw [hn, ← hl]; exact (List.getElem?_eq_some_iff.1 hi).1
   exact el y _ (he i y _ hi (List.getElem?_eq_getElem bG))
  refine ⟨_, l, rfl, ⟨cD, .mk b o n cap cD hl.symm ⟨?_, .inl ⟨hc, ?_⟩⟩ (fun x hx => by rw [← hz]; exact lR x hx) hr, h1⟩, h2⟩
  · have : maxLen < aU := by decide
    omega
  · have : maxLen < aU := by decide
    omega
 | bool _ _ bh => rw [hu] at bh; cases bh
 | int _ _ _ bh => rw [hu] at bh; cases bh
 | str _ _ bh => rw [hu] at bh; cases bh
 | struct _ _ _ _ bh => rw [hu] at bh; cases bh
 | arr _ _ _ _ _ bh => rw [hu] at bh; cases bh
theorem PE {t : TypeId} {fs : Array Field} {cs : List Value} {d : DataW H} (hu : PP.underlying t = some (.struct fs)) (A : jX h t cs d) : cs.length = PP.cellsOf t ∧ ∀ (i : Nat) (f : Field), fs[i]? = some f → ∃ d', jX (H := H) h f.type ((cs.drop f.offset).take (PP.cellsOf f.type)) d' := by
 cases A with
 | struct t fs' cs ds bh hl hd he =>
  rw [hu] at bh; cases bh
  refine ⟨hl, fun i f hf => ?_⟩
  have bG : i < ds.length := by rw [hd]; exact (Array.getElem?_eq_some_iff.1 hf).1
  exact ⟨_, he i f _ hf (List.getElem?_eq_getElem bG)⟩
 | bool _ _ bh => rw [hu] at bh; cases bh
 | int _ _ _ bh => rw [hu] at bh; cases bh
 | str _ _ bh => rw [hu] at bh; cases bh
 | lO _ _ bh => rw [hu] at bh; cases bh
 | sl _ _ _ _ _ _ _ _ _ bh => rw [hu] at bh; cases bh
 | arr _ _ _ _ _ bh => rw [hu] at bh; cases bh
theorem l9 {k z o : Nat} {cs : List Value} {d : DataW H} (hz : PP.cellsOf k = z) (A : jX h k ((cs.drop o).take (PP.cellsOf k)) d) : jX h k ((cs.drop o).take z) d := hz ▸ A
theorem ahi : PP.cellsOf 25 = 7 := by kernel_rfl
theorem Yp : PP.cellsOf 9 = 1 := by kernel_rfl
theorem Yq {cs : List Value} {d : DataW H} (A : jX h 9 cs d) : ∃ x, rS h cs x ∧ True := by
 obtain ⟨b, rfl⟩ := ahh Tryz.underlying9 A
 exact ⟨b, rfl, trivial⟩
theorem oE : PP.cellsOf 3 = 1 := by kernel_rfl
theorem oF {cs : List Value} {d : DataW H} (A : jX h 3 cs d) : ∃ x, rI .i64 h cs x ∧ -9223372036854775808 ≤ x := ahg Tryz.underlying3 A
theorem ahj : PP.cellsOf 22 = 1 := by kernel_rfl
theorem Yr : PP.cellsOf 67 = 4 := by kernel_rfl
theorem ahk {α : Type} {l : List α} (h : l.length = 4) : ∃ c0 c1 c2 c3, l = [c0, c1, c2, c3] := by
 match l, h with
 | [c0, c1, c2, c3], _ => exact ⟨c0, c1, c2, c3, rfl⟩
theorem ahl {cs : List Value} {d : DataW H} (A : jX h 67 cs d) : ∃ x, aq.rep h cs x ∧ (-9223372036854775808 ≤ x.aR) ∧ (-9223372036854775808 ≤ x.fA) ∧ (-9223372036854775808 ≤ x.fB) ∧ (-9223372036854775808 ≤ x.fC) := by
 obtain ⟨hl, hf⟩ := PE Tryz.underlying67 A
 obtain ⟨_, A0⟩ := hf 0 _ rfl
 obtain ⟨x0, e0, p0⟩ := oF (l9 oE A0)
 obtain ⟨_, A1⟩ := hf 1 _ rfl
 obtain ⟨x1, e1, p1⟩ := oF (l9 oE A1)
 obtain ⟨_, A2⟩ := hf 2 _ rfl
 obtain ⟨x2, e2, p2⟩ := oF (l9 oE A2)
 obtain ⟨_, A3⟩ := hf 3 _ rfl
 obtain ⟨x3, e3, p3⟩ := oF (l9 oE A3)
 rw [Yr] at hl
 obtain ⟨c0, c1, c2, c3, rfl⟩ := ahk hl
 cases e0
 cases e1
 cases e2
 cases e3
 exact ⟨⟨x0, x1, x2, x3⟩, rfl, ⟨p0, p1, p2, p3⟩⟩
theorem ahm {cs : List Value} {d : DataW H} (A : jX h 22 cs d) : ∃ x, (rL aq.rep 4) h cs x ∧ ∀ rG ∈ x, (-9223372036854775808 ≤ rG.aR) ∧ (-9223372036854775808 ≤ rG.fA) ∧ (-9223372036854775808 ≤ rG.fB) ∧ (-9223372036854775808 ≤ rG.fC) := by
 obtain ⟨v, l, e, f, p⟩ := Hr (rep := aq.rep) Tryz.underlying22 Yr (fun y => (-9223372036854775808 ≤ y.aR) ∧ (-9223372036854775808 ≤ y.fA) ∧ (-9223372036854775808 ≤ y.fB) ∧ (-9223372036854775808 ≤ y.fC)) (fun cs d A => ahl A) A
 exact ⟨l, ⟨v, e, f⟩, p⟩
theorem ahn : PP.cellsOf 23 = 1 := by kernel_rfl
theorem Ys : PP.cellsOf 79 = 3 := by kernel_rfl
theorem aho {α : Type} {l : List α} (h : l.length = 3) : ∃ c0 c1 c2, l = [c0, c1, c2] := by
 match l, h with
 | [c0, c1, c2], _ => exact ⟨c0, c1, c2, rfl⟩
theorem ahp {cs : List Value} {d : DataW H} (A : jX h 79 cs d) : ∃ x, aB.rep h cs x ∧ (-9223372036854775808 ≤ x.dS) ∧ (-9223372036854775808 ≤ x.er) ∧ (-9223372036854775808 ≤ x.ew) := by
 obtain ⟨hl, hf⟩ := PE Tryz.underlying79 A
 obtain ⟨_, A0⟩ := hf 0 _ rfl
 obtain ⟨x0, e0, p0⟩ := oF (l9 oE A0)
 obtain ⟨_, A1⟩ := hf 1 _ rfl
 obtain ⟨x1, e1, p1⟩ := oF (l9 oE A1)
 obtain ⟨_, A2⟩ := hf 2 _ rfl
 obtain ⟨x2, e2, p2⟩ := oF (l9 oE A2)
 rw [Ys] at hl
 obtain ⟨c0, c1, c2, rfl⟩ := aho hl
 cases e0
 cases e1
 cases e2
 exact ⟨⟨x0, x1, x2⟩, rfl, ⟨p0, p1, p2⟩⟩
theorem ahq {cs : List Value} {d : DataW H} (A : jX h 23 cs d) : ∃ x, (rL aB.rep 3) h cs x ∧ ∀ vU ∈ x, (-9223372036854775808 ≤ vU.dS) ∧ (-9223372036854775808 ≤ vU.er) ∧ (-9223372036854775808 ≤ vU.ew) := by
 obtain ⟨v, l, e, f, p⟩ := Hr (rep := aB.rep) Tryz.underlying23 Ys (fun y => (-9223372036854775808 ≤ y.dS) ∧ (-9223372036854775808 ≤ y.er) ∧ (-9223372036854775808 ≤ y.ew)) (fun cs d A => ahp A) A
 exact ⟨l, ⟨v, e, f⟩, p⟩
theorem ahr {α : Type} {l : List α} (h : l.length = 7) : ∃ c0 c1 c2 c3 c4 c5 c6, l = [c0, c1, c2, c3, c4, c5, c6] := by
 match l, h with
 | [c0, c1, c2, c3, c4, c5, c6], _ => exact ⟨c0, c1, c2, c3, c4, c5, c6, rfl⟩
theorem acj {cs : List Value} {d : DataW H} (A : jX h 25 cs d) : ∃ x, ah.rep h cs x ∧ (-9223372036854775808 ≤ x.fArgs) ∧ (-9223372036854775808 ≤ x.aw) ∧ (-9223372036854775808 ≤ x.ax) ∧ (∀ rG ∈ x.ab, (-9223372036854775808 ≤ rG.aR) ∧ (-9223372036854775808 ≤ rG.fA) ∧ (-9223372036854775808 ≤ rG.fB) ∧ (-9223372036854775808 ≤ rG.fC)) ∧ (∀ vU ∈ x.aD, (-9223372036854775808 ≤ vU.dS) ∧ (-9223372036854775808 ≤ vU.er) ∧ (-9223372036854775808 ≤ vU.ew)) := by
 obtain ⟨hl, hf⟩ := PE Tryz.underlying25 A
 obtain ⟨_, A0⟩ := hf 0 _ rfl
 obtain ⟨x0, e0, p0⟩ := Yq (l9 Yp A0)
 obtain ⟨_, A1⟩ := hf 1 _ rfl
 obtain ⟨x1, e1, p1⟩ := Yq (l9 Yp A1)
 obtain ⟨_, A2⟩ := hf 2 _ rfl
 obtain ⟨x2, e2, p2⟩ := oF (l9 oE A2)
 obtain ⟨_, A3⟩ := hf 3 _ rfl
 obtain ⟨x3, e3, p3⟩ := oF (l9 oE A3)
 obtain ⟨_, A4⟩ := hf 4 _ rfl
 obtain ⟨x4, e4, p4⟩ := oF (l9 oE A4)
 obtain ⟨_, A5⟩ := hf 5 _ rfl
 obtain ⟨x5, e5, p5⟩ := ahm (l9 ahj A5)
 obtain ⟨_, A6⟩ := hf 6 _ rfl
 obtain ⟨x6, e6, p6⟩ := ahq (l9 ahn A6)
 rw [ahi] at hl
 obtain ⟨w5, e5, f5⟩ := e5
 obtain ⟨w6, e6, f6⟩ := e6
 obtain ⟨c0, c1, c2, c3, c4, c5, c6, rfl⟩ := ahr hl
 cases e0
 cases e1
 cases e2
 cases e3
 cases e4
 cases e5
 cases e6
 exact ⟨⟨x0, x1, x2, x3, x4, x5, x6⟩, ⟨w5, w6, rfl, f5, f6⟩, ⟨p2, p3, p4, p5, p6⟩⟩
theorem ahs : PP.cellsOf 28 = 1 := by kernel_rfl
theorem aht {cs : List Value} {d : DataW H} (A : jX h 28 cs d) : ∃ x, (rL (rI .i64) 1) h cs x ∧ ∀ BP ∈ x, -9223372036854775808 ≤ BP := by
 obtain ⟨v, l, e, f, p⟩ := Hr (rep := (rI .i64)) Tryz.underlying28 oE (fun y => -9223372036854775808 ≤ y) (fun cs d A => oF A) A
 exact ⟨l, ⟨v, e, f⟩, p⟩
theorem ack {cs : List Value} {d : DataW H} (A : jX h 37 cs d) : ∃ x, (rL (rL (rI .i64) 1) 1) h cs x ∧ ∀ iG ∈ x, ∀ BP ∈ iG, -9223372036854775808 ≤ BP := by
 obtain ⟨v, l, e, f, p⟩ := Hr (rep := (rL (rI .i64) 1)) Tryz.underlying37 ahs (fun y => ∀ BP ∈ y, -9223372036854775808 ≤ BP) (fun cs d A => aht A) A
 exact ⟨l, ⟨v, e, f⟩, p⟩
end
section
variable {H : Type} {enc : TypeId × Value → H}
theorem ach : tw PP 10 25 = true := by kernel_rfl
theorem aci : tw PP 10 37 = true := by kernel_rfl
theorem TP {W : World} {t : TypeId} {v : Value} {d : DataW H} {ps : List MemPlace} (hp : tw PP 10 t = true) (ht : DataW.Trod enc PP W 0 (fun _ => true) true t v d ps) {φ : aE} {h : AH} (R : HR PP W φ h W) :
 ∃ φ' h' cs, HR PP W φ' h' W ∧ Go.Ve.Ext h.nx φ φ' ∧ cU h h' ∧ LR φ' cs v.cells.toList ∧ jX h' t cs d := by
 obtain ⟨fuel, hf⟩ := ht
 exact agI 10 t _ _ fuel hp hf φ h R
end
end Go.Ve.T
