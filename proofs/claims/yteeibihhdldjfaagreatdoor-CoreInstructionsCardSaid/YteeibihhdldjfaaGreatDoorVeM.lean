/- Part 13: MADE BY A PROGRAM (gen_litn.py): the functions as the evaluator takes them, and that they are what the translation says. No condition. And what follows it. -/
import Derived.Test.YteeibihhdldjfaaGreatDoorVeL
import Derived.Test.YteeibihhdldjfaaGreatDoorProg
import Derived.KernelRfl
set_option linter.unusedVariables false
set_option linter.unusedSimpArgs false
namespace Go.Ve.T
open Go.Ve Go.Proofs
noncomputable abbrev PP : Program := Tryz.prog
theorem bE : PP.follows .mixedOrders = true := by kernel_rfl
abbrev fc (f : Nat) : Value := .func (.func f) #[] #[]
abbrev bs (l : List UInt8) : Value := .string ⟨⟨l⟩⟩
abbrev o (d : Pos) (p : Prim) (a : List ee) : bB := ⟨some d, .aQ p, a, none⟩
abbrev m (d : Pos) (x : ee) : bB := ⟨some d, .aQ .move, [x], none⟩
def s0 : Pos := .xH
def s1 : Pos := .xO s0
def s2 : Pos := .xI s0
def s3 : Pos := .xO s1
def s4 : Pos := .xI s1
def s5 : Pos := .xO s2
def s6 : Pos := .xI s2
def s7 : Pos := .xO s3
def s8 : Pos := .xI s3
def s9 : Pos := .xO s4
def lb : Pos := .xI s4
def tG : Pos := .xO s5
def rY : Pos := .xI s5
def rZ : Pos := .xO s6
def tH : Pos := .xI s6
def tI : Pos := .xO s7
def lG : Pos := .xI s7
def nH : Pos := .xO s8
def kF : Pos := .xI s8
def tJ : Pos := .xO s9
def tK : Pos := .xI s9
def tL : Pos := .xO lb
def tM : Pos := .xI lb
def vM : Pos := .xO tG
def tN : Pos := .xI tG
def tO : Pos := .xO rY
def tP : Pos := .xI rY
def tQ : Pos := .xO rZ
def tR : Pos := .xI rZ
def tS : Pos := .xO tH
def tT : Pos := .xI tH
def tU : Pos := .xO tI
def tV : Pos := .xI tI
def yP : Pos := .xO lG
def HL : Pos := .xI lG
def zW : Pos := .xO nH
def HM : Pos := .xI nH
def B6 : Pos := .xO kF
def HN : Pos := .xI kF
def HO : Pos := .xO tJ
def HP : Pos := .xI tJ
def HQ : Pos := .xO tK
def zU : Pos := .xI tK
def HS : Pos := .xO tL
def HT : Pos := .xI tL
def vN : Pos := .xO tM
def HU : Pos := .xI tM
def HV : Pos := .xO vM
def HW : Pos := .xI vM
def HX : Pos := .xO tN
def vO : Pos := .xI tN
def HY : Pos := .xO tO
def HZ : Pos := .xI tO
def H0 : Pos := .xO tP
def H5 : Pos := .xI tP
def tW : Pos := .xO tQ
def Yv : Pos := .xI tQ
def Yw : Pos := .xO tR
def Yx : Pos := .xI tR
def Yy : Pos := .xO tS
def Yz : Pos := .xI tS
def YA : Pos := .xO tT
def YB : Pos := .xI tT
def YC : Pos := .xO tU
def YD : Pos := .xI tU
def YE : Pos := .xO tV
def YF : Pos := .xI tV
def YG : Pos := .xO yP
def YH : Pos := .xI yP
abbrev TZ : FuncId := 7
abbrev LU : FuncId := 12
abbrev Kp : FuncId := 13
abbrev zY : FuncId := 16
abbrev Lc : FuncId := 28
abbrev Kh : FuncId := 30
abbrev K7 : FuncId := 31
abbrev J4 : FuncId := 32
abbrev Lg : FuncId := 33
abbrev Ls : FuncId := 34
abbrev Ln : FuncId := 35
abbrev Kk : FuncId := 36
abbrev LB : FuncId := 37
abbrev Kn : FuncId := 38
abbrev K9 : FuncId := 39
abbrev LF : FuncId := 40
abbrev LI : FuncId := 41
abbrev Fh : FuncId := 43
abbrev xv : FuncId := 53
abbrev xD : FuncId := 55
abbrev KT : FuncId := 56
abbrev Ab : FuncId := 57
abbrev qU : FuncId := 58
abbrev Ac : FuncId := 59
abbrev Kj : FuncId := 62
abbrev Fc : FuncId := 63
abbrev qK : FuncId := 75
abbrev La : FuncId := 78
abbrev Fq : FuncId := 79
abbrev qL : FuncId := 84
abbrev zV : FuncId := 86
abbrev xu : FuncId := 87
abbrev xC : FuncId := 88
abbrev Ad : FuncId := 89
abbrev J3 : FuncId := 90
abbrev Ft : FuncId := 91
abbrev Fa : FuncId := 92
abbrev EH : FuncId := 93
abbrev JC : FuncId := 100
abbrev ED : FuncId := 101
abbrev EJ : FuncId := 102
abbrev JP : FuncId := 103
abbrev EK : FuncId := 104
abbrev Tn : FuncId := 107
abbrev SV : FuncId := 120
abbrev EI : FuncId := 121
abbrev J2 : FuncId := 122
abbrev EG : FuncId := 123
abbrev EE : FuncId := 124
abbrev JB : FuncId := 134
noncomputable def aF (k : Nat) : ia := (bT PP k).getD ⟨0, [], .skip, false⟩
theorem cY {k : Nat} (h : (bT PP k).isSome = true) : bT PP k = some (aF k) := by
 unfold aF
 cases hc : bT PP k with
 | none => rw [hc] at h; cases h
 | some x => rfl
theorem e3 : bT PP 3 = some (aF 3) := cY (by kernel_rfl)
theorem e4 : bT PP 4 = some (aF 4) := cY (by kernel_rfl)
theorem e5 : bT PP 5 = some (aF 5) := cY (by kernel_rfl)
theorem e6 : bT PP 6 = some (aF 6) := cY (by kernel_rfl)
theorem e7 : bT PP 7 = some (aF 7) := cY (by kernel_rfl)
theorem e8 : bT PP 8 = some (aF 8) := cY (by kernel_rfl)
theorem e9 : bT PP 9 = some (aF 9) := cY (by kernel_rfl)
theorem HK : bT PP 10 = some (aF 10) := cY (by kernel_rfl)
theorem e13 : bT PP 13 = some (aF 13) := cY (by kernel_rfl)
theorem e16 : bT PP 16 = some (aF 16) := cY (by kernel_rfl)
theorem e28 : bT PP 28 = some (aF 28) := cY (by kernel_rfl)
theorem e30 : bT PP 30 = some (aF 30) := cY (by kernel_rfl)
theorem e31 : bT PP 31 = some (aF 31) := cY (by kernel_rfl)
def uH : ia := ⟨33,[.tmp s4],(.seq (.ops [o s2 (.box 25) [.t s0],m s4 (.c cH)]) (.seq (.seq (.ops [o s7 (.bo 7) [.t s2],⟨some s8,(.call 53),[.t s7],none⟩,o s9 (.dQ) [.t s8],m lb (.t s9),⟨some tG,(.aQ (.move)),[.t s1],some (lb,false)⟩,⟨some rY,(.aQ (.fieldAddr 5)),[.t s2],some (lb,false)⟩,⟨some rZ,(.aQ (.aL)),[.t rY],some (lb,false)⟩,⟨some tH,(.aQ (.cO)),[.t rZ],some (lb,false)⟩,⟨some tI,(.aQ (.aN .sub)),[.t tH,.c (vi 1)],some (lb,false)⟩,⟨some lG,(.call 75),[.t tG,.c (vi 0),.t tI],some (lb,false)⟩,⟨some nH,(.aQ (.dQ)),[.t lG],some (lb,false)⟩,o kF (.pick) [.t lb,.c (.bool true),.t nH]]) (.cond (.t kF) (.seq (.ops [m s4 (.c cH)]) .ret) .skip)) (.seq (.ops [o s5 (.alloc 28 [cH]) []]) (.seq (.seq (.ops [o tJ (.bo 7) [.t s2],m tK (.t s1),⟨some tL,(.call 86),[.t tJ,.t tK],none⟩]) (.block 0 (.mV (.t tL) [tM,vM] (.ops [m s6 (.t tM)]) (.block 1 (.seq (.ops [o tN (.aL) [.t s5],m tO (.t s6),⟨some tP,(.call 90),[.t tN,.t tO],none⟩,o tQ (.dQ) [.t tP]]) (.cond (.t tQ) (.ops [o tR (.aL) [.t s5],m tS (.t s6),o tT (.buildSlice 3 1 [(vi 0)] [(0,1)]) [.t tS],o tU (.append 3 1 [(vi 0)]) [.t tR,.t tT],⟨none,(.aQ (.store 1)),[.t s5,.t tU],none⟩]) .skip)))))) (.seq (.ops [o tV (.aL) [.t s5],m s4 (.t tV)]) .ret))))),false⟩
theorem e32 : bT PP 32 = some uH := by kernel_rfl
theorem e33 : bT PP 33 = some (aF 33) := cY (by kernel_rfl)
theorem e34 : bT PP 34 = some (aF 34) := cY (by kernel_rfl)
theorem e35 : bT PP 35 = some (aF 35) := cY (by kernel_rfl)
def sG : ia := ⟨69,[.tmp s2],(.seq (.ops [o s1 (.box 25) [.t s0],m s2 (.c cH)]) (.seq (.seq (.ops [o lb (.bo 7) [.t s1],⟨some tG,(.call 53),[.t lb],none⟩,o rY (.dQ) [.t tG]]) (.cond (.t rY) (.seq (.ops [m s2 (.c cH)]) .ret) .skip)) (.seq (.ops [o rZ (.mkMap) [],⟨none,(.aQ (.oA 0)),[.t rZ,.c (vi 0),.c (.bool true)],none⟩,m tH (.t rZ),o s3 (.alloc 102 [(.map none)]) [],⟨none,(.aQ (.store 1)),[.t s3,.t tH],none⟩]) (.seq (.seq (.ops [o tI (.fieldAddr 5) [.t s1],o lG (.aL) [.t tI],o nH (.cO) [.t lG],m kF (.c (vi 0))]) (.block 0 (.loop (.seq (.ops [o tJ (.aN .lss) [.t kF,.t nH]]) (.seq (.cond (.t tJ) .skip (.exit 0)) (.seq (.block 1 (.seq (.ops [m tK (.t kF),o tL (.cV 4) [.t lG,.t kF],o tM (.bo 4) [.t tL],o s4 (.alloc 3 [(vi 0)]) [],o s5 (.alloc 67 [(vi 0), (vi 0), (vi 0), (vi 0)]) [],⟨none,(.aQ (.store 1)),[.t s4,.t tK],none⟩,⟨none,(.aQ (.store 4)),[.t s5,.t tM],none⟩]) (.seq (.seq (.ops [o vM (.bo 7) [.t s1],o tN (.aL) [.t s4],⟨some tO,(.call 86),[.t vM,.t tN],none⟩]) (.block 2 (.mV (.t tO) [tP,tQ] (.seq (.ops [m s6 (.t tP)]) (.ops [m s7 (.t tQ)])) (.block 3 (.seq (.ops [m tR (.t s6),m tS (.t s7),o tT (.de [1, 1]) [.t tR,.t tS],o tU (.aL) [.t s4],o tV (.aN .add) [.t tU,.c (vi 1)],o yP (.de [1, 1]) [.t tV,.c (vi 0)],o HL (.z7 true [0, 0]) [.t tT,.t yP]]) (.cond (.t HL) (.ops [o zW (.aL) [.t s3],m HM (.t s6),⟨none,(.aQ (.oA 0)),[.t zW,.t HM,.c (.bool true)],none⟩]) .skip)))))) (.seq (.ops [o HN (.fieldAddr 0) [.t s5],o HO (.aL) [.t HN],⟨some HP,(.call 84),[.t HO],none⟩,m B6 (.t HP),o HQ (.extract 0) [.t B6],o zU (.extract 1) [.t B6],o s8 (.alloc 138 [(bs []), (vi 0), (vi 0), (vi 0), (vi 0), (vi 0), (vi 0), (.bool false), (.bool false)]) [],⟨none,(.aQ (.store 9)),[.t s8,.t HQ],none⟩,m s9 (.t zU)]) (.seq (.ops [o HS (.fieldAddr 8) [.t s8],o HT (.aL) [.t HS],m vN (.t HT),⟨some HU,(.aQ (.fieldAddr 0)),[.t s5],some (vN,false)⟩,⟨some HV,(.aQ (.aL)),[.t HU],some (vN,false)⟩,⟨some HW,(.aQ (.aN .eql)),[.t HV,.c (vi 25)],some (vN,false)⟩,o HX (.pick) [.t vN,.c (.bool true),.t HW],m vO (.t HX),⟨some HY,(.aQ (.fieldAddr 0)),[.t s5],some (vO,false)⟩,⟨some HZ,(.aQ (.aL)),[.t HY],some (vO,false)⟩,⟨some H0,(.aQ (.aN .eql)),[.t HZ,.c (vi 32)],some (vO,false)⟩,o H5 (.pick) [.t vO,.c (.bool true),.t H0],m tW (.t H5),⟨some Yv,(.aQ (.aL)),[.t s4],some (tW,true)⟩,⟨some Yw,(.aQ (.aN .add)),[.t Yv,.c (vi 1)],some (tW,true)⟩,⟨some Yx,(.aQ (.fieldAddr 5)),[.t s1],some (tW,true)⟩,⟨some Yy,(.aQ (.aL)),[.t Yx],some (tW,true)⟩,⟨some Yz,(.aQ (.cO)),[.t Yy],some (tW,true)⟩,⟨some YA,(.aQ (.aN .lss)),[.t Yw,.t Yz],some (tW,true)⟩,o YB (.pick) [.t tW,.t YA,.c (.bool false)]]) (.cond (.t YB) (.ops [o YC (.aL) [.t s3],o YD (.aL) [.t s4],o YE (.aN .add) [.t YD,.c (vi 1)],⟨none,(.aQ (.oA 0)),[.t YC,.t YE,.c (.bool true)],none⟩]) .skip)))))) (.ops [o YF (.aN .add) [.t kF,.c (vi 1)],m kF (.t YF)]))))))) (.seq (.ops [o YG (.aL) [.t s3],⟨some YH,(.call 62),[.t YG],none⟩,m s2 (.t YH)]) .ret))))),false⟩
theorem e36 : bT PP 36 = some sG := by kernel_rfl
theorem e37 : bT PP 37 = some (aF 37) := cY (by kernel_rfl)
theorem e38 : bT PP 38 = some (aF 38) := cY (by kernel_rfl)
theorem e39 : bT PP 39 = some (aF 39) := cY (by kernel_rfl)
theorem e40 : bT PP 40 = some (aF 40) := cY (by kernel_rfl)
theorem e41 : bT PP 41 = some (aF 41) := cY (by kernel_rfl)
theorem e43 : bT PP 43 = some (aF 43) := cY (by kernel_rfl)
theorem e53 : bT PP 53 = some (aF 53) := cY (by kernel_rfl)
theorem e55 : bT PP 55 = some (aF 55) := cY (by kernel_rfl)
theorem e56 : bT PP 56 = some (aF 56) := cY (by kernel_rfl)
theorem e57 : bT PP 57 = some (aF 57) := cY (by kernel_rfl)
theorem e58 : bT PP 58 = some (aF 58) := cY (by kernel_rfl)
theorem e59 : bT PP 59 = some (aF 59) := cY (by kernel_rfl)
theorem e62 : bT PP 62 = some (aF 62) := cY (by kernel_rfl)
theorem e63 : bT PP 63 = some (aF 63) := cY (by kernel_rfl)
theorem e75 : bT PP 75 = some (aF 75) := cY (by kernel_rfl)
def Af : ia := ⟨55,[.cell s4 none],(.seq (.ops [o s2 (.box 25) [.t s0],o s3 (.box 100) [.t s1],o s4 (.alloc 39 [cH]) []]) (.seq (.ops [o lb (.fieldAddr 5) [.t s2],o tG (.aL) [.t lb],o rY (.cO) [.t tG],o rZ (.mkSlice 4 1 [(.bool false)]) [.t rY,.t rY],o s5 (.alloc 39 [cH]) [],⟨none,(.aQ (.store 1)),[.t s5,.t rZ],none⟩]) (.seq (.ops [o tH (.buildSlice 3 1 [(vi 0)] [(0,1)]) [.c (vi 0)],o s6 (.alloc 28 [cH]) [],⟨none,(.aQ (.store 1)),[.t s6,.t tH],none⟩]) (.seq (.ops [o tI (.aL) [.t s5],o lG (.cV 1) [.t tI,.c (vi 0)],⟨none,(.aQ (.store 1)),[.t lG,.c (.bool true)],none⟩]) (.seq (.block 0 (.loop (.seq (.seq (.ops [o nH (.aL) [.t s6],o kF (.cO) [.t nH],o tJ (.aN .gtr) [.t kF,.c (vi 0)]]) (.cond (.t tJ) .skip (.exit 0))) (.block 1 (.seq (.ops [o tK (.aL) [.t s6],o tL (.aL) [.t s6],o tM (.cO) [.t tL],o vM (.aN .sub) [.t tM,.c (vi 1)],o tN (.cV 1) [.t tK,.t vM],o tO (.aL) [.t tN],o s7 (.alloc 3 [(vi 0)]) [],⟨none,(.aQ (.store 1)),[.t s7,.t tO],none⟩]) (.seq (.ops [o tP (.aL) [.t s6],o tQ (.aL) [.t s6],o tR (.cO) [.t tQ],o tS (.aN .sub) [.t tR,.c (vi 1)],o tT (.slice 1 false true false) [.t tP,.t tS],⟨none,(.aQ (.store 1)),[.t s6,.t tT],none⟩]) (.seq (.ops [o tU (.bo 7) [.t s2],o tV (.aL) [.t s7],⟨some yP,(.call 86),[.t tU,.t tV],none⟩]) (.block 2 (.mV (.t yP) [HL,zW] (.seq (.ops [m s8 (.t HL)]) (.ops [m s9 (.t zW)])) (.block 3 (.seq (.seq (.ops [o HM (.aL) [.t s3],o B6 (.aL) [.t s7],m HN (.t s8),m HO (.t s9),⟨some HP,.dyn,[.t HM,.t B6,.t HN,.t HO],none⟩,o HQ (.dQ) [.t HP]]) (.cond (.t HQ) (.seq (.ops [⟨none,(.aQ (.store 1)),[.t s4,.c cH],none⟩]) .ret) .skip)) (.seq (.ops [o zU (.aL) [.t s5],m HS (.t s8),o HT (.cV 1) [.t zU,.t HS],o vN (.aL) [.t HT],o HU (.dQ) [.t vN]]) (.cond (.t HU) (.seq (.ops [o HV (.aL) [.t s5],m HW (.t s8),o HX (.cV 1) [.t HV,.t HW],⟨none,(.aQ (.store 1)),[.t HX,.c (.bool true)],none⟩]) (.ops [o vO (.aL) [.t s6],m HY (.t s8),o HZ (.buildSlice 3 1 [(vi 0)] [(0,1)]) [.t HY],o H0 (.append 3 1 [(vi 0)]) [.t vO,.t HZ],⟨none,(.aQ (.store 1)),[.t s6,.t H0],none⟩])) .skip))))))))))))) (.seq (.ops [o H5 (.aL) [.t s5],⟨none,(.aQ (.store 1)),[.t s4,.t H5],none⟩]) .ret)))))),false⟩
theorem e78 : bT PP 78 = some Af := by kernel_rfl
theorem e79 : bT PP 79 = some (aF 79) := cY (by kernel_rfl)
theorem e84 : bT PP 84 = some (aF 84) := cY (by kernel_rfl)
theorem e86 : bT PP 86 = some (aF 86) := cY (by kernel_rfl)
theorem e87 : bT PP 87 = some (aF 87) := cY (by kernel_rfl)
theorem e88 : bT PP 88 = some (aF 88) := cY (by kernel_rfl)
theorem e89 : bT PP 89 = some (aF 89) := cY (by kernel_rfl)
theorem e90 : bT PP 90 = some (aF 90) := cY (by kernel_rfl)
theorem e91 : bT PP 91 = some (aF 91) := cY (by kernel_rfl)
theorem e92 : bT PP 92 = some (aF 92) := cY (by kernel_rfl)
theorem e93 : bT PP 93 = some (aF 93) := cY (by kernel_rfl)
theorem abE : bT PP 100 = some (aF 100) := cY (by kernel_rfl)
theorem abI : bT PP 101 = some (aF 101) := cY (by kernel_rfl)
theorem abS : bT PP 102 = some (aF 102) := cY (by kernel_rfl)
theorem abW : bT PP 103 = some (aF 103) := cY (by kernel_rfl)
theorem abU : bT PP 104 = some (aF 104) := cY (by kernel_rfl)
theorem ahM : bT PP 120 = some (aF 120) := cY (by kernel_rfl)
theorem abP : bT PP 121 = some (aF 121) := cY (by kernel_rfl)
theorem abZ : bT PP 122 = some (aF 122) := cY (by kernel_rfl)
theorem abM : bT PP 123 = some (aF 123) := cY (by kernel_rfl)
theorem abK : bT PP 124 = some (aF 124) := cY (by kernel_rfl)
theorem abC : bT PP 134 = some (aF 134) := cY (by kernel_rfl)
end Go.Ve.T
namespace Go.Ve
open Go.RowKit
noncomputable section
def Prim.Ho : Prim → Bool
 | .move => true
 | _ => false
theorem Prim.ahd {p : Prim} (h : p.Ho = true) : p = .move := by
 unfold Prim.Ho at h
 split at h
 · rfl
 · cases h
def Hp (P : Program) (w0 : World) (act : jc) (vs : List Value) (E K : Value → W) : W := match act with
 | .aQ p => (match p.Ho, vs with
  | true, [x] => K x
  | _, vs => pr p vs K)
 | .call f => cl P w0 f vs E K
 | .dyn => dy P w0 vs E K
 | .panic => pn vs E
 | _ => fun _ => False
def yH (P : Program) (w0 : World) (o : bB) (σ : Sl) (E K : Value → W) : W := match o.guard with
 | none => Hp P w0 o.act (o.args.map (eV σ)) E K
 | some (g, want) => gd (σ g) want (fun k => Hp P w0 o.act (o.args.map (eV σ)) E k) K
def Hq (P : Program) (w0 : World) : List bB → Sl → (Value → W) → (Sl → W) → W
 | [], σ, _, N => N σ
 | o :: l, σ, E, N => yH P w0 o σ E fun v => Hq P w0 l (σ.fD o.dst v) E N
def Hr (p : Prim) (vs : List Value) (v : Value) (K : W) : W := bif p.makes then ckm p vs v K else ck p vs v K
def Hs (o : bB) (σ : Sl) (K : W) : W := match o.act, o.dst with
 | .aQ p, some q => (match o.guard with
  | none => Hr p (o.args.map (eV σ)) (σ q) K
  | some (g, want) => gk (σ g) want (fun k => Hr p (o.args.map (eV σ)) (σ q) k) K)
 | _, _ => fun _ => False
def BL (P : Program) (w0 : World) : List jd → Sl → (Value → W) → (Sl → W) → W
 | [], σ, _, N => N σ
 | .op _ o :: l, σ, E, N => yH P w0 o σ E fun v => BL P w0 l (σ.fD o.dst v) E N
 | .lM _ o :: l, σ, E, N => Hs o σ (BL P w0 l σ E N)
def BM : List Pos → Type
 | [] => Unit
 | [_] => Value
 | _ :: q :: ps => Value × BM (q :: ps)
def kR : (ps : List Pos) → Sl → BM ps
 | [], _ => ()
 | [p], σ => σ p
 | p :: q :: ps, σ => (σ p, kR (q :: ps) σ)
def rV : (ps : List Pos) → Sl → BM ps → Sl
 | [], σ, _ => σ
 | [p], σ, a => σ.up p a
 | p :: q :: ps, σ, a => (rV (q :: ps) σ a.2).up p a.1
def nl : dh → Nat
 | .seq a b => nl a + nl b
 | .cond _ a b => nl a + nl b
 | .block _ c => nl c
 | .loop c => nl c + 1
 | _ => 0
def cF (P : Program) (w0 : World) : dh → List (List Pos) → Sl → (Value → W) → (AX → Sl → W) → W
 | .skip, _, σ, _, X => X .normal σ
 | .ops l, _, σ, E, X => Hq P w0 l σ E (X .normal)
 | .draw l, _, σ, E, X => BL P w0 l σ E (X .normal)
 | .seq a b, L, σ, E, X => cF P w0 a L σ E fun x σ => match x with
  | .normal => cF P w0 b (L.drop (nl a)) σ E X
  | x => X x σ
 | .cond c a b, L, σ, E, X => br (eV σ c) (cF P w0 a L σ E X) (cF P w0 b (L.drop (nl a)) σ E X)
 | .block id c, L, σ, E, X => cF P w0 c L σ E fun x σ => match x with
  | .exit j => bif Nat.beq j id then X .normal σ else X (.exit j) σ
  | x => X x σ
 | .loop c, L, σ, E, X => (match L with
  | ps :: L => LP (α := BM ps) (fun k a => cF P w0 c L (rV ps σ a) E fun x σ => match x with
   | .normal => k (kR ps σ)
   | x => X x σ) (kR ps σ)
  | [] => fun _ => False)
 | .mV _ _ _ _, _, _, _, _ => fun _ => False
 | .exit id, _, σ, _, X => X (.exit id) σ
 | .ret, _, σ, _, X => X .ret σ
def cR (D : Nat) (p : Pos) : Bool := D.testBit p.un
def BN (D : Nat) (p : Pos) : Nat := D ^^^ (D &&& (1 <<< p.un))
def Pn (D : Nat) : Option Pos → Nat
 | none => D
 | some p => BN D p
def qp (D : Nat) : Option Pos → Nat
 | none => D
 | some p => D ||| (1 <<< p.un)
def j2 (D : Nat) : List Pos → Nat
 | [] => D
 | p :: ps => j2 (BN D p) ps
def agree (D : Nat) (σ τ : Sl) : Prop := ∀ p, cR D p = false → σ p = τ p
theorem XU (p q : Pos) : (1 <<< p.un).testBit q.un = decide (q = p) := by
 rw [Nat.one_shiftLeft, Nat.testBit_two_pow]
 exact decide_eq_decide.2 ⟨fun e => (Pos.sH e).symm, fun e => by rw [e]⟩
theorem Ht (A B : Nat) (p : Pos) : cR (A ||| B) p = (cR A p || cR B p) := Nat.testBit_or ..
theorem XV (D : Nat) (p q : Pos) : cR (BN D p) q = (cR D q && !decide (q = p)) := by
 unfold cR BN
 rw [Nat.testBit_xor, Nat.testBit_and, XU]
 cases D.testBit q.un <;> cases decide (q = p) <;> rfl
theorem yI (D : Nat) (p q : Pos) : cR (qp D (some p)) q = (cR D q || decide (q = p)) := by
 unfold cR qp
 rw [Nat.testBit_or, XU]
theorem XW {q : Pos} : ∀ {ps : List Pos} {D : Nat}, cR (j2 D ps) q = (cR D q && !decide (q ∈ ps))
 | [], D => by simp [j2]
 | p :: ps, D => by
  rw [j2, XW, XV]
  by_cases e : q = p <;> simp [e]
theorem agree.or {A B : Nat} {σ τ : Sl} (h : agree A σ τ) : agree (A ||| B) σ τ := fun p hp => h p (by rw [Ht, Bool.or_eq_false_iff] at hp; exact hp.1)
theorem agree.or' {A B : Nat} {σ τ : Sl} (h : agree B σ τ) : agree (A ||| B) σ τ := fun p hp => h p (by rw [Ht, Bool.or_eq_false_iff] at hp; exact hp.2)
theorem Sl.tC (σ : Sl) (p q : Pos) (v : Value) : σ.up p v q = if q = p then v else σ q := by
 unfold Sl.up
 by_cases e : q = p
 · rw [if_pos e, Pos.beq_iff.2 e.symm]; rfl
 · rw [if_neg e]
   cases h : p.beq q with
   | false => rfl
   | true => exact absurd (Pos.beq_iff.1 h).symm e
theorem agree.up {D : Nat} {σ τ : Sl} (h : agree D σ τ) : ∀ (d : Option Pos) (v : Value), agree (Pn D d) (σ.fD d v) (τ.fD d v)
 | none, _ => h
 | some p, v => fun q hq => by
  show σ.up p v q = τ.up p v q
  rw [Sl.tC, Sl.tC]
  by_cases e : q = p
  · rw [if_pos e, if_pos e]
  · rw [if_neg e, if_neg e]
    refine h q ?_
    have hq : cR (BN D p) q = false := hq
    rw [XV] at hq
    simpa [e] using hq
structure Out where
 n : Option Nat
 r : Option Nat
 x : List (Nat × Nat)
def jO : Option Nat → Option Nat → Option Nat
 | none, b => b
 | a, none => a
 | some a, some b => some (a ||| b)
def yJ (D : Nat) : ee → Bool
 | .t p => !cR D p
 | .c _ => true
def qq (D : Nat) (o : bB) : Bool := o.args.all (yJ D) && (match o.guard with
 | none => true
 | some (g, _) => !cR D g)
def BO : List bB → Nat → Option Nat
 | [], D => some D
 | o :: l, D => bif qq D o then BO l (Pn D o.dst) else none
def vK : List jd → Nat → Option Nat
 | [], D => some D
 | .op _ o :: l, D => bif qq D o then vK l (Pn D o.dst) else none
 | .lM _ o :: l, D => bif qq D o && (match o.dst with
  | none => true
  | some q => !cR D q) then vK l D else none
def tD : List bB → Nat → Nat
 | [], D => D
 | o :: l, D => tD l (qp D o.dst)
def oY : List jd → Nat → Nat
 | [], D => D
 | .op _ o :: l, D => oY l (qp D o.dst)
 | .lM _ _ :: l, D => oY l D
def wr : dh → Nat → Nat
 | .ops l, D => tD l D
 | .draw l, D => oY l D
 | .seq a b, D => wr b (wr a D)
 | .cond _ a b, D => wr b (wr a D)
 | .block _ c, D => wr c D
 | .loop c, D => wr c D
 | _, D => D
def rW (id : Nat) : List (Nat × Nat) → Option Nat
 | [] => none
 | (j, D) :: l => bif Nat.beq j id then jO (some D) (rW id l) else rW id l
def yK (id : Nat) : List (Nat × Nat) → List (Nat × Nat)
 | [] => []
 | (j, D) :: l => bif Nat.beq j id then yK id l else (j, D) :: yK id l
def Out.XX : Option Nat → Option Out
 | none => none
 | some D => some ⟨some D, none, []⟩
def ahe (ra : Out) (rb : Option Out) : Option Out := match rb with
 | none => none
 | some rb => some ⟨rb.n, jO ra.r rb.r, ra.x ++ rb.x⟩
def XY : Option Out → Option Out → Option Out
 | some ra, some rb => some ⟨jO ra.n rb.n, jO ra.r rb.r, ra.x ++ rb.x⟩
 | _, _ => none
def ahf (id : Nat) : Option Out → Option Out
 | none => none
 | some r => some ⟨jO r.n (rW id r.x), r.r, yK id r.x⟩
def rX (D : Nat) : List Pos → Bool
 | [] => true
 | p :: ps => !cR D p && rX D ps
def yL (D : Nat) : List Pos → Bool
 | [] => true
 | p :: ps => cR D p && yL D ps
def Hu (ps : List Pos) (D0 : Nat) : Option Out → Option Out
 | none => none
 | some r => (match r.n with
  | none => some ⟨none, r.r, r.x⟩
  | some D1 => bif rX D1 ps && Nat.beq (D1 ||| D0) D0 then some ⟨none, r.r, r.x⟩ else none)
def iD : dh → List (List Pos) → Nat → Option Out
 | .skip, _, D => some ⟨some D, none, []⟩
 | .ops l, _, D => Out.XX (BO l D)
 | .draw l, _, D => Out.XX (vK l D)
 | .seq a b, L, D => (match iD a L D with
  | none => none
  | some ra => (match ra.n with
   | none => some ra
   | some D1 => ahe ra (iD b (L.drop (nl a)) D1)))
 | .cond c a b, L, D => bif yJ D c then XY (iD a L D) (iD b (L.drop (nl a)) D) else none
 | .block id c, L, D => ahf id (iD c L D)
 | .loop c, L, D => (match L with
  | [] => none
  | ps :: L => bif rX D ps && yL (wr c 0) ps then Hu ps (D ||| j2 (wr c 0) ps) (iD c L (D ||| j2 (wr c 0) ps)) else none)
 | .exit id, _, D => some ⟨none, none, [(id, D)]⟩
 | .ret, _, D => some ⟨none, some D, []⟩
 | .mV _ _ _ _, _, _ => none
def Out.at (r : Out) (x : AX) (D : Nat) : Prop := match x with
 | .normal => r.n = some D
 | .ret => r.r = some D
 | .exit id => (id, D) ∈ r.x
 | .aP _ => False
theorem BP {a b : Option Nat} {A : Nat} (h : a = some A) : ∃ B, jO a b = some (A ||| B) ∧ (b = none → B = 0) := by
 subst h
 cases b with
 | none => exact ⟨0, by simp [jO], fun _ => rfl⟩
 | some b => exact ⟨b, rfl, fun h => by cases h⟩
theorem BQ {a b : Option Nat} {B : Nat} (h : b = some B) : ∃ A, jO a b = some (A ||| B) := by
 subst h
 cases a with
 | none => exact ⟨0, by simp [jO]⟩
 | some a => exact ⟨a, rfl⟩
theorem Hv {p : Pos} : ∀ {l : List bB} {D : Nat}, cR (tD l D) p = (cR D p || cR (tD l 0) p)
 | [], D => by simp [tD, cR]
 | o :: l, D => by
  rw [tD, tD, Hv, Hv (D := qp 0 o.dst), ← Bool.or_assoc]
  congr 1
  cases o.dst with
  | none => simp [qp, cR]
  | some q => rw [yI, yI]; simp [cR]
theorem BR {p : Pos} : ∀ {l : List jd} {D : Nat}, cR (oY l D) p = (cR D p || cR (oY l 0) p)
 | [], D => by simp [oY, cR]
 | .lM _ _ :: l, D => by rw [oY, oY, BR]
 | .op _ o :: l, D => by
  rw [oY, oY, BR, BR (D := qp 0 o.dst), ← Bool.or_assoc]
  congr 1
  cases o.dst with
  | none => simp [qp, cR]
  | some q => rw [yI, yI]; simp [cR]
theorem ahg (p : Pos) : cR 0 p = false := by simp [cR]
theorem ahh {p : Pos} : ∀ (c : dh) (D : Nat), cR (wr c D) p = (cR D p || cR (wr c 0) p) := by
 intro c
 induction c with
 | ops l => exact fun D => Hv
 | draw l => exact fun D => BR
 | seq a b j0 jE => intro D; simp only [wr]; rw [jE, jE (wr a 0), j0, Bool.or_assoc]
 | cond c a b j0 jE => intro D; simp only [wr]; rw [jE, jE (wr a 0), j0, Bool.or_assoc]
 | block id c ih => exact ih
 | loop c ih => exact ih
 | _ => intro D; simp only [wr]; rw [ahg, Bool.or_false]
def cB (c : dh) (σ σ' : Sl) : Prop := ∀ p, cR (wr c 0) p = false → σ' p = σ p
theorem yM {a b : dh} {p : Pos} (h : cR (wr b (wr a 0)) p = false) : cR (wr a 0) p = false ∧ cR (wr b 0) p = false := by
 rw [ahh] at h
 exact Bool.or_eq_false_iff.1 h
theorem Po {D : Nat} {p : Pos} : ∀ {ps : List Pos}, rX D ps = true → p ∈ ps → cR D p = false
 | q :: ps, h, hp => by
  rw [rX, Bool.and_eq_true] at h
  rcases List.mem_cons.1 hp with rfl | hp
  · simpa using h.1
  · exact Po h.2 hp
theorem XZ {D : Nat} {p : Pos} : ∀ {ps : List Pos}, yL D ps = true → p ∈ ps → cR D p = true
 | q :: ps, h, hp => by
  rw [yL, Bool.and_eq_true] at h
  rcases List.mem_cons.1 hp with rfl | hp
  · exact h.1
  · exact XZ h.2 hp
theorem Pp {σ τ : Sl} : ∀ {ps : List Pos}, (∀ p ∈ ps, σ p = τ p) → kR ps σ = kR ps τ
 | [], _ => rfl
 | [p], h => h p (by simp)
 | p :: q :: ps, h => by
  show (σ p, kR (q :: ps) σ) = (τ p, kR (q :: ps) τ)
  rw [h p (by simp), Pp fun x hx => h x (List.mem_cons_of_mem _ hx)]
theorem X0 {σ τ : Sl} {x : Pos} : ∀ {ps : List Pos}, x ∈ ps → rV ps σ (kR ps τ) x = τ x
 | [p], h => by
  obtain rfl := List.mem_singleton.1 h
  show σ.up x (τ x) x = τ x
  rw [Sl.tC, if_pos rfl]
 | p :: q :: ps, h => by
  show (rV (q :: ps) σ (kR (q :: ps) τ)).up p (τ p) x = τ x
  rw [Sl.tC]
  by_cases e : x = p
  · rw [if_pos e, e]
  · rw [if_neg e]
    exact X0 ((List.mem_cons.1 h).resolve_left e)
theorem Pq {σ : Sl} {x : Pos} : ∀ {ps : List Pos} {a : BM ps}, x ∉ ps → rV ps σ a x = σ x
 | [], _, _ => rfl
 | [p], a, h => by
  exact (Sl.tC σ p x a).trans (if_neg (by simpa using h))
 | p :: q :: ps, a, h => by
  show (rV (q :: ps) σ a.2).up p a.1 x = σ x
  rw [Sl.tC, if_neg fun e => h (by simp [e]), Pq fun hx => h (List.mem_cons_of_mem _ hx)]
section
variable {P : Program} {w0 : World} {e : Env} {d : DS}
theorem X1 {D : Nat} {σ τ : Sl} (h : agree D σ τ) {o : ee} (ho : yJ D o = true) : eV σ o = eV τ o := by
 cases o with
 | t p => exact h p (by simpa [yJ] using ho)
 | c v => rfl
theorem Ps {D : Nat} {σ τ : Sl} (h : agree D σ τ) : ∀ {l : List ee}, l.all (yJ D) = true → l.map (eV σ) = l.map (eV τ)
 | [], _ => rfl
 | o :: l, hl => by
  rw [List.all_cons, Bool.and_eq_true] at hl
  rw [List.map_cons, List.map_cons, Ps h hl.2, X1 h hl.1]
theorem X2 {D : Nat} {σ τ : Sl} (h : agree D σ τ) {o : bB} (ho : qq D o = true) {E K : Value → W} : yH P w0 o σ E K = yH P w0 o τ E K := by
 obtain ⟨dst, act, args, g⟩ := o
 rw [qq, Bool.and_eq_true] at ho
 unfold yH
 simp only
 rw [Ps h ho.1]
 cases g with
 | none => rfl
 | some pw =>
  obtain ⟨g, want⟩ := pw
  have h2 : cR D g = false := by simpa using ho.2
  simp only [h g h2]
theorem X3 {act : jc} {dst : Option Pos} {vs : List Value} {σ : Sl} {h : AH} {E K : Value → W} {Q : PQ} {K' : Sl → DS → AH → Prop} (H : Hp P w0 act vs E K h) (hE : ∀ v h, E v h → Q (.aP v) σ d h) (hK : ∀ v h, K v h → K' (σ.fD dst v) d h) : jm P w0 act dst e σ d h vs Q K' := by
 cases act with
 | aQ p =>
  simp only [Hp] at H
  revert H
  cases hp : p.Ho with
  | false => exact fun H => Hf (e := e) (Q := Q) H hK
  | true =>
   match vs with
   | [] => exact fun H => Hf (e := e) (Q := Q) H hK
   | [x] => intro H; rw [Prim.ahd hp]; exact fun k hk => hk _ _ (hK _ _ H)
   | _ :: _ :: _ => exact fun H => Hf (e := e) (Q := Q) H hK
 | call f => exact ON H hE hK
 | dyn => exact XI H hE hK
 | panic => exact agS H hE
 | _ => exact H.elim
theorem X4 {o : bB} {σ : Sl} {h : AH} {E K : Value → W} {Q : PQ} {K' : Sl → DS → AH → Prop} (H : yH P w0 o σ E K h) (hE : ∀ v h, E v h → Q (.aP v) σ d h) (hK : ∀ v h, K v h → K' (σ.fD o.dst v) d h) : wpOp P w0 o e σ d h Q K' := by
 obtain ⟨dst, act, args, g⟩ := o
 cases g with
 | none => exact X3 H hE hK
 | some pw => exact Hg rfl H (fun H => X3 H hE hK) hK
theorem ahi {E : Value → W} {N : Sl → W} {Q : PQ} (hE : ∀ v σ h, E v h → Q (.aP v) σ d h) : ∀ {l : List bB} {D D' : Nat} {σm σ : Sl} {h : AH}, BO l D = some D' → agree D σm σ → Hq P w0 l σm E N h →
 (∀ σm' σ' h, agree D' σm' σ' → cB (.ops l) σm σm' → N σm' h → Q .normal σ' d h) → wpOps P w0 l e σ d h Q := by
 intro l
 induction l with
 | nil =>
  intro D D' σm σ h hc ha H hN
  obtain rfl := Option.some.inj hc
  exact hN _ _ _ ha (fun _ _ => rfl) H
 | cons o l ih =>
  intro D D' σm σ h hc ha H hN
  unfold BO at hc
  cases ho : qq D o with
  | false => rw [ho] at hc; cases hc
  | true =>
   rw [ho] at hc
   unfold Hq at H
   rw [X2 ha ho] at H
   refine X4 H (fun v h => hE v σ h) fun v h H => ih hc (ha.up o.dst v) H fun σm' σ' h h1 h2 h3 => hN _ _ _ h1 (fun p hp => ?_) h3
   have hp : cR (tD l (qp 0 o.dst)) p = false := hp
   rw [Hv, Bool.or_eq_false_iff] at hp
   rw [h2 p hp.2]
   revert hp
   cases o.dst with
   | none => exact fun _ => rfl
   | some q =>
    intro hp
    have h4 := hp.1
    rw [yI, Bool.or_eq_false_iff] at h4
    show σm.up q v p = σm p
    rw [Sl.tC, if_neg (by simpa using h4.2)]
theorem ahj {D : Nat} {o : bB} {σm σ : Sl} {h : AH} {K : W} (ho : qq D o = true) (hd : (match o.dst with
 | none => true
 | some q => !cR D q) = true) (ha : agree D σm σ) (H : Hs o σm K h) : yB o σ h ∧ K h := by
 obtain ⟨dst, act, args, g⟩ := o
 rw [qq, Bool.and_eq_true] at ho
 have e1 := Ps ha ho.1
 cases act with
 | aQ p =>
  cases dst with
  | none => exact H.elim
  | some q =>
   have e2 : σm q = σ q := ha q (by simpa using hd)
   have cc : Hr p (args.map (eV σ)) (σ q) K h → vA (.aQ p) (some q) (args.map (eV σ)) σ h ∧ K h := by
    unfold Hr vA
    simp only
    cases p.makes with
    | true => exact id
    | false => exact id
   cases g with
   | none =>
    simp only [Hs, e1, e2] at H
    exact cc H
   | some pw =>
    obtain ⟨g, want⟩ := pw
    have e3 : σm g = σ g := ha g (by simpa using ho.2)
    simp only [Hs, e1, e2, e3] at H
    exact agT rfl H cc
 | _ => cases dst <;> exact H.elim
theorem ahk {E : Value → W} {N : Sl → W} {Q : PQ} (hE : ∀ v σ h, E v h → Q (.aP v) σ d h) : ∀ {l : List jd} {D D' : Nat} {σm σ : Sl} {h : AH}, vK l D = some D' → agree D σm σ → BL P w0 l σm E N h →
 (∀ σm' σ' h, agree D' σm' σ' → cB (.draw l) σm σm' → N σm' h → Q .normal σ' d h) → vB P w0 l e σ d h Q := by
 intro l
 induction l with
 | nil =>
  intro D D' σm σ h hc ha H hN
  obtain rfl := Option.some.inj hc
  exact hN _ _ _ ha (fun _ _ => rfl) H
 | cons o l ih =>
  intro D D' σm σ h hc ha H hN
  cases o with
  | lM i o =>
   unfold vK at hc
   cases ho : (qq D o && (match o.dst with
    | none => true
    | some q => !cR D q)) with
   | false => rw [ho] at hc; cases hc
   | true =>
    rw [ho] at hc
    rw [Bool.and_eq_true] at ho
    have H2 := ahj ho.1 ho.2 ha H
    exact ⟨H2.1, ih hc ha H2.2 hN⟩
  | op i o =>
   unfold vK at hc
   cases ho : qq D o with
   | false => rw [ho] at hc; cases hc
   | true =>
    rw [ho] at hc
    unfold BL at H
    rw [X2 ha ho] at H
    refine X4 H (fun v h => hE v σ h) fun v h H => ih hc (ha.up o.dst v) H fun σm' σ' h h1 h2 h3 => hN _ _ _ h1 (fun p hp => ?_) h3
    have hp : cR (oY l (qp 0 o.dst)) p = false := hp
    rw [BR, Bool.or_eq_false_iff] at hp
    rw [h2 p hp.2]
    revert hp
    cases o.dst with
    | none => exact fun _ => rfl
    | some q =>
     intro hp
     have h4 := hp.1
     rw [yI, Bool.or_eq_false_iff] at h4
     show σm.up q v p = σm p
     rw [Sl.tC, if_neg (by simpa using h4.2)]
theorem X5 {id D : Nat} : ∀ {l : List (Nat × Nat)} {j : Nat}, (j, D) ∈ l → Nat.beq j id = true → ∃ G, rW id l = some G ∧ ∀ σ τ : Sl, agree D σ τ → agree G σ τ
 | (i, A) :: l, j, hm, hj => by
  rcases List.mem_cons.1 hm with e | hm
  · obtain ⟨rfl, rfl⟩ := Prod.mk.inj e
    obtain ⟨B, hB, _⟩ := BP (a := some D) (b := rW id l) rfl
    exact ⟨_, by rw [rW, hj]; exact hB, fun σ τ h => h.or⟩
  · obtain ⟨G, h1, h2⟩ := X5 hm hj
    cases hi : Nat.beq i id with
    | false => exact ⟨G, by rw [rW, hi]; exact h1, h2⟩
    | true =>
     obtain ⟨A', hA⟩ := BQ (a := some A) h1
     exact ⟨_, by rw [rW, hi]; exact hA, fun σ τ h => (h2 σ τ h).or'⟩
theorem X6 {id D : Nat} : ∀ {l : List (Nat × Nat)} {j : Nat}, (j, D) ∈ l → Nat.beq j id = false → (j, D) ∈ yK id l
 | (i, A) :: l, j, hm, hj => by
  rcases List.mem_cons.1 hm with e | hm
  · obtain ⟨rfl, rfl⟩ := Prod.mk.inj e
    rw [yK, hj]
    exact List.mem_cons_self
  · have := X6 hm hj
    rw [yK]
    cases Nat.beq i id with
    | true => exact this
    | false => exact List.mem_cons_of_mem _ this
theorem ahl (bE : P.follows .mixedOrders = true) : ∀ (c : dh) {L : List (List Pos)} {D : Nat} {r : Out} {σm σ : Sl} {h : AH} {E : Value → W} {X : AX → Sl → W} {Q : PQ}, iD c L D = some r → agree D σm σ → cF P w0 c L σm E X h →
 (∀ v σ h, E v h → Q (.aP v) σ d h) → (∀ x D' σm' σ' h, r.at x D' → agree D' σm' σ' → cB c σm σm' → X x σm' h → Q x σ' d h) → ep P w0 c e σ d h Q := by
 intro c
 induction c with
 | skip =>
  intro L D r σm σ h E X Q hc ha H hE hX
  obtain rfl := Option.some.inj hc
  exact hX .normal D _ _ _ rfl ha (fun _ _ => rfl) H
 | ops l =>
  intro L D r σm σ h E X Q hc ha H hE hX
  unfold iD at hc
  cases hD : BO l D with
  | none => rw [hD] at hc; cases hc
  | some D' =>
   rw [hD] at hc
   obtain rfl := Option.some.inj hc
   exact ahi hE hD ha H fun σm' σ' h h1 h2 h3 => hX .normal D' _ _ _ rfl h1 h2 h3
 | draw l =>
  intro L D r σm σ h E X Q hc ha H hE hX
  unfold iD at hc
  cases hD : vK l D with
  | none => rw [hD] at hc; cases hc
  | some D' =>
   rw [hD] at hc
   obtain rfl := Option.some.inj hc
   exact ahk hE hD ha H fun σm' σ' h h1 h2 h3 => hX .normal D' _ _ _ rfl h1 h2 h3
 | seq a b j0 jE =>
  intro L D r σm σ h E X Q hc ha H hE hX
  unfold iD at hc
  cases hA : iD a L D with
  | none => rw [hA] at hc; cases hc
  | some ra =>
   rw [hA] at hc
   simp only at hc
   cases hn : ra.n with
   | none =>
    rw [hn] at hc
    obtain rfl := Option.some.inj hc
    refine j0 hA ha H hE fun x D' σm' σ' h h1 h2 h3 h4 => ?_
    have hk : cB (.seq a b) σm σm' := fun p hp => h3 p (yM hp).1
    cases x with
    | normal => exact absurd (hn.symm.trans h1) nofun
    | ret => exact hX .ret D' _ _ _ h1 h2 hk h4
    | exit id => exact hX (.exit id) D' _ _ _ h1 h2 hk h4
    | aP v => exact h1.elim
   | some D1 =>
    rw [hn] at hc
    simp only at hc
    cases hB : iD b (L.drop (nl a)) D1 with
    | none => rw [hB] at hc; cases hc
    | some rb =>
     rw [hB] at hc
     obtain rfl := Option.some.inj hc
     refine j0 hA ha H hE fun x D' σm' σ' h h1 h2 h3 h4 => ?_
     have hk : cB (.seq a b) σm σm' := fun p hp => h3 p (yM hp).1
     cases x with
     | normal =>
      obtain rfl := Option.some.inj (hn.symm.trans h1)
      refine jE hB h2 h4 hE fun x D' σm2 σ2 h g1 g2 g3 g4 => ?_
      have AS : cB (.seq a b) σm σm2 := fun p hp => (g3 p (yM hp).2).trans (h3 p (yM hp).1)
      cases x with
      | normal => exact hX .normal D' _ _ _ g1 g2 AS g4
      | ret =>
       obtain ⟨A, hA⟩ := BQ (a := ra.r) g1
       exact hX .ret _ _ _ _ hA g2.or' AS g4
      | exit id => exact hX (.exit id) D' _ _ _ (List.mem_append_right _ g1) g2 AS g4
      | aP v => exact g1.elim
     | ret =>
      obtain ⟨B, hB, _⟩ := BP (b := rb.r) h1
      exact hX .ret _ _ _ _ hB h2.or hk h4
     | exit id => exact hX (.exit id) D' _ _ _ (List.mem_append_left _ h1) h2 hk h4
     | aP v => exact h1.elim
 | cond o a b j0 jE =>
  intro L D r σm σ h E X Q hc ha H hE hX
  unfold iD at hc
  cases ho : yJ D o with
  | false => rw [ho] at hc; cases hc
  | true =>
   rw [ho] at hc
   have hc : XY (iD a L D) (iD b (L.drop (nl a)) D) = some r := hc
   cases hA : iD a L D with
   | none => rw [hA] at hc; cases hc
   | some ra =>
    cases hB : iD b (L.drop (nl a)) D with
    | none => rw [hA, hB] at hc; cases hc
    | some rb =>
     rw [hA, hB] at hc
     obtain rfl := Option.some.inj hc
     unfold cF at H
     rw [X1 ha ho] at H
     refine pK rfl H (fun H => j0 hA ha H hE fun x D' σm' σ' h h1 h2 h3 h4 => ?_) (fun H => jE hB ha H hE fun x D' σm' σ' h h1 h2 h3 h4 => ?_)
     · have hk : cB (.cond o a b) σm σm' := fun p hp => h3 p (yM hp).1
       cases x with
       | normal =>
        obtain ⟨B, hB, _⟩ := BP (b := rb.n) h1
        exact hX .normal _ _ _ _ hB h2.or hk h4
       | ret =>
        obtain ⟨B, hB, _⟩ := BP (b := rb.r) h1
        exact hX .ret _ _ _ _ hB h2.or hk h4
       | exit id => exact hX (.exit id) D' _ _ _ (List.mem_append_left _ h1) h2 hk h4
       | aP v => exact h1.elim
     · have hk : cB (.cond o a b) σm σm' := fun p hp => h3 p (yM hp).2
       cases x with
       | normal =>
        obtain ⟨A, hA⟩ := BQ (a := ra.n) h1
        exact hX .normal _ _ _ _ hA h2.or' hk h4
       | ret =>
        obtain ⟨A, hA⟩ := BQ (a := ra.r) h1
        exact hX .ret _ _ _ _ hA h2.or' hk h4
       | exit id => exact hX (.exit id) D' _ _ _ (List.mem_append_right _ h1) h2 hk h4
       | aP v => exact h1.elim
 | block id c ih =>
  intro L D r σm σ h E X Q hc ha H hE hX
  unfold iD at hc
  cases hC : iD c L D with
  | none => rw [hC] at hc; cases hc
  | some rc =>
   rw [hC] at hc
   obtain rfl := Option.some.inj hc
   refine ih hC ha H hE fun x D' σm' σ' h h1 h2 h3 h4 => ?_
   cases x with
   | normal =>
    obtain ⟨B, hB, _⟩ := BP (b := rW id rc.x) h1
    exact hX .normal _ _ _ _ hB h2.or h3 h4
   | ret => exact hX .ret D' _ _ _ h1 h2 h3 h4
   | exit j =>
    have h4 : (bif Nat.beq j id then X .normal σm' else X (.exit j) σm') h := h4
    show bif Nat.beq j id then Q .normal σ' d h else Q (.exit j) σ' d h
    cases hj : Nat.beq j id with
    | true =>
     rw [hj] at h4
     obtain ⟨G, hG, hm⟩ := X5 h1 hj
     obtain ⟨A, hA⟩ := BQ (a := rc.n) hG
     exact hX .normal _ _ _ _ hA (hm _ _ h2).or' h3 h4
    | false =>
     rw [hj] at h4
     exact hX (.exit j) D' _ _ _ (X6 h1 hj) h2 h3 h4
   | aP v => exact h1.elim
 | loop c ih =>
  intro L D r σm σ h E X Q hc ha H hE hX
  cases L with
  | nil => cases hc
  | cons ps L =>
   have hc : (bif rX D ps && yL (wr c 0) ps then Hu ps (D ||| j2 (wr c 0) ps) (iD c L (D ||| j2 (wr c 0) ps)) else none) = some r := hc
   cases fy : rX D ps && yL (wr c 0) ps with
   | false => rw [fy] at hc; cases hc
   | true =>
    rw [fy] at hc
    have hc : Hu ps (D ||| j2 (wr c 0) ps) (iD c L (D ||| j2 (wr c 0) ps)) = some r := hc
    rw [Bool.and_eq_true] at fy
    cases hC : iD c L (D ||| j2 (wr c 0) ps) with
    | none => rw [hC] at hc; cases hc
    | some rc =>
     rw [hC] at hc
     have fit : ∀ σ', (∀ p, cR (D ||| j2 (wr c 0) ps) p = false → p ∉ ps → σm p = σ' p) → agree (D ||| j2 (wr c 0) ps) (rV ps σm (kR ps σ')) σ' := fun σ' hh p hp => by
      by_cases hm : p ∈ ps
      · exact X0 hm
      · rw [Pq hm]; exact hh p hp hm
     have out : ∀ p, cR (D ||| j2 (wr c 0) ps) p = false → p ∉ ps → cR D p = false ∧ cR (wr c 0) p = false := fun p hp hm => by
      rw [Ht, Bool.or_eq_false_iff, XW] at hp
      exact ⟨hp.1, by simpa [hm] using hp.2⟩
     have Pt : r.r = rc.r ∧ r.x = rc.x ∧ ∀ D1, rc.n = some D1 → rX D1 ps = true ∧ Nat.beq (D1 ||| (D ||| j2 (wr c 0) ps)) (D ||| j2 (wr c 0) ps) = true := by
      unfold Hu at hc
      simp only at hc
      cases hn : rc.n with
      | none =>
       rw [hn] at hc
       obtain rfl := Option.some.inj hc
       exact ⟨rfl, rfl, nofun⟩
      | some D1 =>
       rw [hn] at hc
       simp only at hc
       cases ht : rX D1 ps && Nat.beq (D1 ||| (D ||| j2 (wr c 0) ps)) (D ||| j2 (wr c 0) ps) with
       | false => rw [ht] at hc; cases hc
       | true =>
        rw [ht] at hc
        obtain rfl := Option.some.inj hc
        exact ⟨rfl, rfl, fun D2 h2 => by obtain rfl := Option.some.inj h2; exact Bool.and_eq_true_iff.1 ht⟩
     obtain ⟨n, H⟩ := H
     have key : ∀ n σh h, agree (D ||| j2 (wr c 0) ps) (rV ps σm (kR ps σh)) σh → gG (fun k a => cF P w0 c L (rV ps σm a) E fun x σ => match x with
      | .normal => k (kR ps σ)
      | x => X x σ) n (kR ps σh) h → WC P w0 (.loop c) e σh d h Q := by
      intro n
      induction n with
      | zero => intro σh h _ H; exact H.elim
      | succ n ihn =>
       intro σh h hh H
       refine XA bE (ih hC hh H hE fun x D' σm' σ' h h1 h2 h3 h4 => ?_)
       have hk : cB (.loop c) σm σm' := fun p hp => (h3 p hp).trans (Pq fun hm => by
        have := XZ fy.2 hm
        rw [show cR (wr c 0) p = false from hp] at this
        cases this)
       cases x with
       | normal =>
        obtain ⟨q1, q2⟩ := Pt.2.2 D' h1
        have e1 : kR ps σm' = kR ps σ' := Pp fun p hp => h2 p (Po q1 hp)
        refine ihn σ' h (fit σ' fun p hp hm => ?_) (e1 ▸ h4)
        rw [← hk p (out p hp hm).2]
        refine h2 p ?_
        have e2 := Nat.eq_of_beq_eq_true q2
        rw [← e2, Ht, Bool.or_eq_false_iff] at hp
        exact hp.1
       | ret => exact hX .ret D' _ _ _ (Pt.1.trans h1) h2 hk h4
       | exit id => exact hX (.exit id) D' _ _ _ (show (id, D') ∈ r.x by rw [Pt.2.1]; exact h1) h2 hk h4
       | aP v => exact h1.elim
     have e0 : kR ps σm = kR ps σ := Pp fun p hp => ha p (Po fy.1 hp)
     exact key n σ h (fit σ fun p hp hm => ha p (out p hp hm).1) (e0 ▸ H)
 | mV f ps a b j0 jE =>
  intro L D r σm σ h E X Q hc
  cases hc
 | exit id =>
  intro L D r σm σ h E X Q hc ha H hE hX
  obtain rfl := Option.some.inj hc
  exact hX (.exit id) D _ _ _ (List.mem_singleton.2 rfl) ha (fun _ _ => rfl) H
 | ret =>
  intro L D r σm σ h E X Q hc ha H hE hX
  obtain rfl := Option.some.inj hc
  exact hX .ret D _ _ _ rfl ha (fun _ _ => rfl) H
def qs (D : Nat) : List lg → Bool
 | [] => true
 | .tmp p :: rs => !cR D p && qs D rs
 | .cell p _ :: rs => !cR D p && qs D rs
theorem BT {D : Nat} {σ τ : Sl} (ha : agree D σ τ) {h : AH} : ∀ {rs : List lg} {K : List Value → Prop}, qs D rs = true → lV rs σ h K = lV rs τ h K
 | [], _, _ => rfl
 | .tmp p :: rs, K, hd => by
  rw [qs, Bool.and_eq_true] at hd
  unfold lV
  rw [ha p (by simpa using hd.1), BT ha hd.2]
 | .cell p none :: rs, K, hd => by
  rw [qs, Bool.and_eq_true] at hd
  unfold lV
  rw [ha p (by simpa using hd.1)]
  congr 1
  funext v h'
  rw [BT ha hd.2]
 | .cell p (some n) :: rs, K, hd => by
  rw [qs, Bool.and_eq_true] at hd
  unfold lV
  rw [ha p (by simpa using hd.1)]
  congr 1
  funext v h'
  rw [BT ha hd.2]
def X7 (af : ia) (L : List (List Pos)) : Bool := match iD af.code L 0 with
 | none => false
 | some r => (match r.n with
  | none => true
  | some D => qs D af.results) && (match r.r with
  | none => true
  | some D => qs D af.results)
theorem dM (bE : P.follows .mixedOrders = true) {f : FuncId} {af : ia} (hf : bT P f = some af) (L : List (List Pos)) (hd : X7 af L = true) {args : List Value} {h : AH} {R : CR → AH → Prop}
 (H : cF P w0 af.code L (G2 args) (fun v h => R (.aP v) h) (fun x σ h => BI P w0 af.results R x σ ⟨[], .off⟩ h) h) : WF P w0 f args h R := by
 refine ET bE hf ?_
 unfold X7 at hd
 cases hc : iD af.code L 0 with
 | none => rw [hc] at hd; cases hd
 | some r =>
  rw [hc] at hd
  simp only [Bool.and_eq_true] at hd
  refine ahl bE af.code hc (fun _ _ => rfl) H (fun v σ h hv => hv) fun x D' σm' σ' h h1 h2 _ h4 => ?_
  cases x with
  | normal =>
   have h5 : qs D' af.results = true := by have := hd.1; rw [show r.n = some D' from h1] at this; exact this
   have h4 : lV af.results σm' h fun vs => R (.ret (vE vs)) h := h4
   rw [BT h2 h5] at h4
   exact h4
  | ret =>
   have h5 : qs D' af.results = true := by have := hd.2; rw [show r.r = some D' from h1] at this; exact this
   have h4 : lV af.results σm' h fun vs => R (.ret (vE vs)) h := h4
   rw [BT h2 h5] at h4
   exact h4
  | exit id => exact h4.elim
  | aP v => exact h1.elim
end
end
end Go.Ve
namespace Go.Ve.T
open Go.Ve Go.Proofs
noncomputable section
set_option maxRecDepth 10000
def SO (w0 : World) (E R : Value → W) (x0 x1 x2 : Value) : W :=
 pr (.aN .leq) [x1, x0] fun v1 =>
 gd v1 true (fun k => k x0) fun v2 =>
 gd v1 true (fun k => k x2) fun v3 =>
 gd v1 true (fun k => pr (.aN .leq) [v2, v3] k) fun v4 =>
 pr (.pick) [v1, v4, (.bool false)] fun v5 =>
 R v5
theorem abA {w0 : World} {h : AH} {Q : CR → AH → Prop} (x0 x1 x2 : Value) (H : SO w0 (fun v h => Q (.aP v) h) (fun v h => Q (.ret v) h) x0 x1 x2 h) : WF PP w0 qK [x0, x1, x2] h Q :=
 dM bE e75 [] (by kernel_rfl) (Eq.mp (by kernel_rfl) H)
def Jy (w0 : World) (E R : Value → W)  : W :=
 R (vi (-1))
def Jz (w0 : World) (E R : Value → W) (y3 : Value) (k2 : Value → W) : W :=
 pr (.aN .add) [y3, (vi 1)] fun v5 =>
 k2 v5
def JA (w0 : World) (E R : Value → W) (x0 y3 x1 : Value) (k2 : Value → W) : W :=
 pr (.cV 1) [x0, y3] fun v6 =>
 pr (.aL) [v6] fun v7 =>
 dy PP w0 [x1, v7] E fun v8 =>
 br v8 (
 R y3) (
 Jz w0 E R y3 k2)
def Ez (w0 : World) (E R : Value → W) (v1 x0 x1 : Value) (k2 : Value → W) (y3 : Value) : W :=
 pr (.aN .lss) [y3, v1] fun v4 =>
 br v4 (
 JA w0 E R x0 y3 x1 k2) (
 Jy w0 E R )
def SP (w0 : World) (E R : Value → W) (x0 x1 : Value) : W :=
 pr (.cO) [x0] fun v1 =>
 LP (α := Value) (fun k a => Ez w0 E R v1 x0 x1 k a) ((vi 0))
theorem abB {w0 : World} {h : AH} {Q : CR → AH → Prop} (x0 x1 : Value) (H : SP w0 (fun v h => Q (.aP v) h) (fun v h => Q (.ret v) h) x0 x1 h) : WF PP w0 JB [x0, x1] h Q :=
 dM bE abC [[s8]] (by kernel_rfl) (Eq.mp (by kernel_rfl) H)
def SS (w0 : World) (E R : Value → W) (x0 x1 : Value) : W :=
 cl PP w0 JB [x0, x1] E fun v1 =>
 pr (.aN .geq) [v1, (vi 0)] fun v2 =>
 R v2
theorem abD {w0 : World} {h : AH} {Q : CR → AH → Prop} (x0 x1 : Value) (H : SS w0 (fun v h => Q (.aP v) h) (fun v h => Q (.ret v) h) x0 x1 h) : WF PP w0 JC [x0, x1] h Q :=
 dM bE abE [] (by kernel_rfl) (Eq.mp (by kernel_rfl) H)
def SU (w0 : World) (E R : Value → W) (x0 v1 : Value) : W :=
 cl PP w0 SV [] E fun v2 =>
 pr (.JD 35 9) [v2, x0] fun v3 =>
 pr (.store 9) [v1, v3] fun v4 =>
 ld (.bo 9) [v1] fun v5 =>
 R (.tuple ⟨[v5, (.bool true)]⟩)
def EA (w0 : World) (E R : Value → W) (v1 x0 v9 : Value) : W :=
 br v9 (
 pr (.build [(bs []), (vi 0), (vi 0), (vi 0), (vi 0), (vi 0), (vi 0), (.bool false), (.bool false)] []) [] fun v10 =>
 pr (.store 9) [v1, v10] fun v11 =>
 ld (.bo 9) [v1] fun v12 =>
 R (.tuple ⟨[v12, (.bool false)]⟩)) (
 SU w0 E R x0 v1)
def SW (w0 : World) (E R : Value → W) (x0 : Value) : W :=
 pr (.alloc 138 [(bs []), (vi 0), (vi 0), (vi 0), (vi 0), (vi 0), (vi 0), (.bool false), (.bool false)]) [] fun v1 =>
 pr (.aN .lss) [x0, (vi 1)] fun v6 =>
 gd v6 false (fun k => k x0) fun v7 =>
 gd v6 false (fun k => pr (.aN .gtr) [v7, (vi 34)] k) fun v8 =>
 pr (.pick) [v6, (.bool true), v8] fun v9 =>
 EA w0 E R v1 x0 v9
theorem abF {w0 : World} {h : AH} {Q : CR → AH → Prop} (x0 : Value) (H : SW w0 (fun v h => Q (.aP v) h) (fun v h => Q (.ret v) h) x0 h) : WF PP w0 qL [x0] h Q :=
 dM bE e84 [] (by kernel_rfl) (Eq.mp (by kernel_rfl) H)
def SY (w0 : World) (E R : Value → W) (x0 : Value) : W :=
 pr (.box 67) [x0] fun v1 =>
 pr (.alloc 135 [(vi 0), (vi 0), (vi 0)]) [] fun v2 =>
 pr (.fieldAddr 1) [v1] fun v3 =>
 pr (.aL) [v3] fun v4 =>
 pr (.fieldAddr 2) [v1] fun v5 =>
 pr (.aL) [v5] fun v6 =>
 pr (.fieldAddr 3) [v1] fun v7 =>
 pr (.aL) [v7] fun v8 =>
 pr (.de [1, 1, 1]) [v4, v6, v8] fun v9 =>
 pr (.store 3) [v2, v9] fun v10 =>
 ld (.bo 3) [v2] fun v11 =>
 R v11
theorem abG {w0 : World} {h : AH} {Q : CR → AH → Prop} (x0 : Value) (H : SY w0 (fun v h => Q (.aP v) h) (fun v h => Q (.ret v) h) x0 h) : WF PP w0 xu [x0] h Q :=
 dM bE e87 [] (by kernel_rfl) (Eq.mp (by kernel_rfl) H)
def JE (w0 : World) (E R : Value → W) (y9 : Value) : W :=
 R y9
def EB (w0 : World) (E R : Value → W) (aO : Value) (eb : Value → Value → W) (cP : Value) : W :=
 pr (.aN .add) [aO, (vi 1)] fun dA =>
 eb cP dA
def JF (w0 : World) (E R : Value → W) (v11 aO v1 aV : Value) (eb : Value → Value → W) : W :=
 pr (.qM 3) [v11, aO] fun cD =>
 pr (.aN .eql) [cD, (vi 3)] fun dB =>
 br dB (
 pr (.bo 4) [v1] fun v20 =>
 cl PP w0 xu [v20] E fun v21 =>
 pr (.qM 3) [v21, aO] fun aZ =>
 pr (.buildSlice 3 1 [(vi 0)] [(0,1)]) [aZ] fun bZ =>
 pr (.append 3 1 [(vi 0)]) [aV, bZ] fun v24 =>
 EB w0 E R aO eb v24) (
 EB w0 E R aO eb aV)
def EC (w0 : World) (E R : Value → W) (v11 v1 : Value) (eb : Value → Value → W) (aV aO : Value) : W :=
 pr (.aN .lss) [aO, (vi 3)] fun cQ =>
 br cQ (
 JF w0 E R v11 aO v1 aV eb) (
 JE w0 E R  aV)
def SZ (w0 : World) (E R : Value → W) (x0 : Value) : W :=
 pr (.box 67) [x0] fun v1 =>
 pr (.fieldAddr 0) [v1] fun v2 =>
 pr (.aL) [v2] fun v3 =>
 cl PP w0 qL [v3] E fun v4 =>
 pr (.extract 0) [v4] fun v5 =>
 pr (.extract 1) [v4] fun v6 =>
 pr (.alloc 138 [(bs []), (vi 0), (vi 0), (vi 0), (vi 0), (vi 0), (vi 0), (.bool false), (.bool false)]) [] fun v7 =>
 pr (.store 9) [v7, v5] fun v8 =>
 pr (.fieldAddr 1) [v7] fun v10 =>
 pr (.bo 3) [v10] fun v11 =>
 LP (α := Value × Value) (fun k a => EC w0 E R v11 v1 (fun b0 b1 => k (b0, b1)) a.1 a.2) (cH, (vi 0))
theorem abH {w0 : World} {h : AH} {Q : CR → AH → Prop} (x0 : Value) (H : SZ w0 (fun v h => Q (.aP v) h) (fun v h => Q (.ret v) h) x0 h) : WF PP w0 ED [x0] h Q :=
 dM bE abI [[s5, lG]] (by kernel_rfl) (Eq.mp (by kernel_rfl) H)
def S4 (w0 : World) (E R : Value → W) (x0 x1 : Value) : W :=
 pr (.box 79) [x0] fun v1 =>
 pr (.fieldAddr 0) [v1] fun v2 =>
 pr (.aL) [v2] fun v3 =>
 pr (.aL) [x1] fun v4 =>
 pr (.aN .leq) [v3, v4] fun v5 =>
 gd v5 true (fun k => pr (.aL) [x1] k) fun v6 =>
 gd v5 true (fun k => pr (.fieldAddr 1) [v1] k) fun v7 =>
 gd v5 true (fun k => pr (.aL) [v7] k) fun v8 =>
 gd v5 true (fun k => pr (.aN .lss) [v6, v8] k) fun v9 =>
 pr (.pick) [v5, v9, (.bool false)] fun v10 =>
 R v10
theorem abJ {w0 : World} {h : AH} {Q : CR → AH → Prop} (x0 x1 : Value) (H : S4 w0 (fun v h => Q (.aP v) h) (fun v h => Q (.ret v) h) x0 x1 h) : WF PP w0 EE [x0, x1] h Q :=
 dM bE abK [] (by kernel_rfl) (Eq.mp (by kernel_rfl) H)
def JG (w0 : World) (E R : Value → W)  : W :=
 R (vi (-1))
def JH (w0 : World) (E R : Value → W) (y3 : Value) (k2 : Value → W) : W :=
 pr (.aN .add) [y3, (vi 1)] fun v5 =>
 k2 v5
def JI (w0 : World) (E R : Value → W) (x0 y3 x1 : Value) (k2 : Value → W) : W :=
 pr (.cV 3) [x0, y3] fun v6 =>
 pr (.bo 3) [v6] fun v7 =>
 dy PP w0 [x1, v7] E fun v8 =>
 br v8 (
 R y3) (
 JH w0 E R y3 k2)
def EF (w0 : World) (E R : Value → W) (v1 x0 x1 : Value) (k2 : Value → W) (y3 : Value) : W :=
 pr (.aN .lss) [y3, v1] fun v4 =>
 br v4 (
 JI w0 E R x0 y3 x1 k2) (
 JG w0 E R )
def S5 (w0 : World) (E R : Value → W) (x0 x1 : Value) : W :=
 pr (.cO) [x0] fun v1 =>
 LP (α := Value) (fun k a => EF w0 E R v1 x0 x1 k a) ((vi 0))
theorem abL {w0 : World} {h : AH} {Q : CR → AH → Prop} (x0 x1 : Value) (H : S5 w0 (fun v h => Q (.aP v) h) (fun v h => Q (.ret v) h) x0 x1 h) : WF PP w0 EG [x0, x1] h Q :=
 dM bE abM [[s8]] (by kernel_rfl) (Eq.mp (by kernel_rfl) H)
def S6 (w0 : World) (E R : Value → W) (x0 x1 : Value) : W :=
 pr (.box 25) [x0] fun v1 =>
 pr (.box 3) [x1] fun v2 =>
 pr (.fieldAddr 6) [v1] fun v3 =>
 pr (.aL) [v3] fun v4 =>
 pr (.uF (.func EE) 0) [v2] fun v5 =>
 cl PP w0 EG [v4, v5] E fun v6 =>
 R v6
theorem abN {w0 : World} {h : AH} {Q : CR → AH → Prop} (x0 x1 : Value) (H : S6 w0 (fun v h => Q (.aP v) h) (fun v h => Q (.ret v) h) x0 x1 h) : WF PP w0 EH [x0, x1] h Q :=
 dM bE e93 [] (by kernel_rfl) (Eq.mp (by kernel_rfl) H)
def JJ (w0 : World) (E R : Value → W) (x1 dA x0 aZ : Value) : W :=
 br aZ (
 pr (.fieldAddr 6) [x1] fun bZ =>
 pr (.aL) [bZ] fun v24 =>
 pr (.cV 3) [v24, dA] fun ft =>
 pr (.fieldAddr 2) [ft] fun eo =>
 pr (.aL) [eo] fun dm =>
 dy PP w0 [x0, dm, (vi 2)] E fun v28 =>
 R (.tuple ⟨[]⟩)) (
 R (.tuple ⟨[]⟩))
def JK (w0 : World) (E R : Value → W) (x1 x2 b9 x0 : Value) : W :=
 pr (.bo 7) [x1] fun cQ =>
 pr (.aL) [x2] fun bC =>
 cl PP w0 EH [cQ, bC] E fun dA =>
 pr (.fieldAddr 7) [b9] fun cD =>
 pr (.aL) [cD] fun dB =>
 gd dB true (fun k => k dA) fun v20 =>
 gd dB true (fun k => pr (.aN .geq) [v20, (vi 0)] k) fun v21 =>
 pr (.pick) [dB, v21, (.bool false)] fun aZ =>
 JJ w0 E R x1 dA x0 aZ
def S7 (w0 : World) (E R : Value → W) (uG : Value) (zS : Value → W) : W :=
 pr (.aN .add) [uG, (vi 1)] fun eQ =>
 zS eQ
def S8 (w0 : World) (E R : Value → W) (v30 uG x0 : Value) (zS : Value → W) : W :=
 pr (.cV 1) [v30, uG] fun dW =>
 pr (.aL) [dW] fun v37 =>
 dy PP w0 [x0, v37, (vi 1)] E fun hY =>
 pr (.dQ) [hY] fun eR =>
 br eR (
 R (.tuple ⟨[]⟩)) (
 S7 w0 E R uG zS)
def S9 (w0 : World) (E R : Value → W) (v31 v30 x0 x1 x2 b9 : Value) (zS : Value → W) (uG : Value) : W :=
 pr (.aN .lss) [uG, v31] fun fu =>
 br fu (
 S8 w0 E R v30 uG x0 zS) (
 JK w0 E R x1 x2 b9 x0)
def JL (w0 : World) (E R : Value → W) (v6 x0 x1 x2 b9 : Value) : W :=
 pr (.bo 4) [v6] fun du =>
 cl PP w0 ED [du] E fun v30 =>
 pr (.cO) [v30] fun v31 =>
 LP (α := Value) (fun k a => S9 w0 E R v31 v30 x0 x1 x2 b9 k a) ((vi 0))
def zT (w0 : World) (E R : Value → W) (v6 x0 x1 x2 b9 k9 : Value) : W :=
 br k9 (
 R (.tuple ⟨[]⟩)) (
 JL w0 E R v6 x0 x1 x2 b9)
def JM (w0 : World) (E R : Value → W) (x0 x2 v6 x1 b9 v49 : Value) : W :=
 gd v49 true (fun k => k x0) fun im =>
 gd v49 true (fun k => pr (.aL) [x2] k) fun v51 =>
 gd v49 true (fun k => pr (.aN .add) [v51, (vi 1)] k) fun iq =>
 gd v49 true (fun k => dy PP w0 [im, iq, (vi 0)] E k) fun v53 =>
 gd v49 true (fun k => pr (.dQ) [v53] k) fun pI =>
 pr (.pick) [v49, pI, (.bool false)] fun k9 =>
 zT w0 E R v6 x0 x1 x2 b9 k9
def Ta (w0 : World) (E R : Value → W) (x0 x1 x2 : Value) : W :=
 pr (.fieldAddr 5) [x1] fun v1 =>
 pr (.aL) [v1] fun v2 =>
 pr (.aL) [x2] fun v3 =>
 pr (.cV 4) [v2, v3] fun v4 =>
 pr (.bo 4) [v4] fun v5 =>
 pr (.alloc 67 [(vi 0), (vi 0), (vi 0), (vi 0)]) [] fun v6 =>
 pr (.store 4) [v6, v5] fun v7 =>
 pr (.fieldAddr 0) [v6] fun v8 =>
 pr (.aL) [v8] fun v9 =>
 cl PP w0 qL [v9] E fun v10 =>
 pr (.extract 0) [v10] fun v11 =>
 pr (.extract 1) [v10] fun v12 =>
 pr (.alloc 138 [(bs []), (vi 0), (vi 0), (vi 0), (vi 0), (vi 0), (vi 0), (.bool false), (.bool false)]) [] fun b9 =>
 pr (.store 9) [b9, v11] fun bP =>
 pr (.fieldAddr 8) [b9] fun v40 =>
 pr (.aL) [v40] fun lH =>
 pr (.dQ) [lH] fun jw =>
 gd jw true (fun k => pr (.aL) [x2] k) fun dq =>
 gd jw true (fun k => pr (.aN .add) [dq, (vi 1)] k) fun fU =>
 gd jw true (fun k => pr (.fieldAddr 5) [x1] k) fun lI =>
 gd jw true (fun k => pr (.aL) [lI] k) fun v46 =>
 gd jw true (fun k => pr (.cO) [v46] k) fun kb =>
 gd jw true (fun k => pr (.aN .lss) [fU, kb] k) fun gw =>
 pr (.pick) [jw, gw, (.bool false)] fun v49 =>
 JM w0 E R x0 x2 v6 x1 b9 v49
theorem abO {w0 : World} {h : AH} {Q : CR → AH → Prop} (x0 x1 x2 : Value) (H : Ta w0 (fun v h => Q (.aP v) h) (fun v h => Q (.ret v) h) x0 x1 x2 h) : WF PP w0 EI [x0, x1, x2] h Q :=
 dM bE abP [[zU]] (by kernel_rfl) (Eq.mp (by kernel_rfl) H)
def Tb (w0 : World) (E R : Value → W) (x0 x1 : Value) : W :=
 pr (.box 25) [x0] fun v1 =>
 pr (.box 3) [x1] fun v2 =>
 pr (.uF (.func EI) 0) [v1, v2] fun v3 =>
 R v3
theorem abQ {w0 : World} {h : AH} {Q : CR → AH → Prop} (x0 x1 : Value) (H : Tb w0 (fun v h => Q (.aP v) h) (fun v h => Q (.ret v) h) x0 x1 h) : WF PP w0 zV [x0, x1] h Q :=
 dM bE e86 [] (by kernel_rfl) (Eq.mp (by kernel_rfl) H)
def Tc (w0 : World) (E R : Value → W) (x0 x1 : Value) : W :=
 pr (.aL) [x1] fun v1 =>
 pr (.aN .sub) [v1, (vi 1)] fun v2 =>
 cl PP w0 qK [x0, (vi 0), v2] E fun v3 =>
 pr (.dQ) [v3] fun v4 =>
 R v4
theorem abR {w0 : World} {h : AH} {Q : CR → AH → Prop} (x0 x1 : Value) (H : Tc w0 (fun v h => Q (.aP v) h) (fun v h => Q (.ret v) h) x0 x1 h) : WF PP w0 EJ [x0, x1] h Q :=
 dM bE abS [] (by kernel_rfl) (Eq.mp (by kernel_rfl) H)
def JN (w0 : World) (E R : Value → W) (v1 x1 cQ : Value) : W :=
 gd cQ false (fun k => pr (.fieldAddr 2) [v1] k) fun bC =>
 gd cQ false (fun k => pr (.aL) [bC] k) fun dA =>
 gd cQ false (fun k => pr (.aL) [x1] k) fun cD =>
 gd cQ false (fun k => pr (.aN .sub) [cD, (vi 1)] k) fun dB =>
 gd cQ false (fun k => cl PP w0 qK [dA, (vi 0), dB] E k) fun v20 =>
 gd cQ false (fun k => pr (.dQ) [v20] k) fun v21 =>
 pr (.pick) [cQ, (.bool true), v21] fun aZ =>
 R aZ
def JO (w0 : World) (E R : Value → W) (v1 x1 v10 : Value) : W :=
 gd v10 false (fun k => pr (.fieldAddr 1) [v1] k) fun v11 =>
 gd v10 false (fun k => pr (.aL) [v11] k) fun v12 =>
 gd v10 false (fun k => pr (.aL) [x1] k) fun b9 =>
 gd v10 false (fun k => pr (.aN .gtr) [v12, b9] k) fun bP =>
 pr (.pick) [v10, (.bool true), bP] fun cQ =>
 JN w0 E R v1 x1 cQ
def Td (w0 : World) (E R : Value → W) (x0 x1 : Value) : W :=
 pr (.box 79) [x0] fun v1 =>
 pr (.fieldAddr 0) [v1] fun v2 =>
 pr (.aL) [v2] fun v3 =>
 pr (.aN .lss) [v3, (vi 0)] fun v4 =>
 gd v4 false (fun k => pr (.fieldAddr 0) [v1] k) fun v5 =>
 gd v4 false (fun k => pr (.aL) [v5] k) fun v6 =>
 gd v4 false (fun k => pr (.fieldAddr 1) [v1] k) fun v7 =>
 gd v4 false (fun k => pr (.aL) [v7] k) fun v8 =>
 gd v4 false (fun k => pr (.aN .geq) [v6, v8] k) fun v9 =>
 pr (.pick) [v4, (.bool true), v9] fun v10 =>
 JO w0 E R v1 x1 v10
theorem abT {w0 : World} {h : AH} {Q : CR → AH → Prop} (x0 x1 : Value) (H : Td w0 (fun v h => Q (.aP v) h) (fun v h => Q (.ret v) h) x0 x1 h) : WF PP w0 EK [x0, x1] h Q :=
 dM bE abU [] (by kernel_rfl) (Eq.mp (by kernel_rfl) H)
def Te (w0 : World) (E R : Value → W) (x0 x1 : Value) : W :=
 cl PP w0 EG [x0, x1] E fun v1 =>
 pr (.aN .geq) [v1, (vi 0)] fun v2 =>
 R v2
theorem abV {w0 : World} {h : AH} {Q : CR → AH → Prop} (x0 x1 : Value) (H : Te w0 (fun v h => Q (.aP v) h) (fun v h => Q (.ret v) h) x0 x1 h) : WF PP w0 JP [x0, x1] h Q :=
 dM bE abW [] (by kernel_rfl) (Eq.mp (by kernel_rfl) H)
def JQ (w0 : World) (E R : Value → W) (v1 v5 : Value) : W :=
 pr (.fieldAddr 6) [v1] fun v7 =>
 pr (.aL) [v7] fun v8 =>
 pr (.uF (.func EK) 0) [v5] fun v9 =>
 cl PP w0 JP [v8, v9] E fun v10 =>
 pr (.dQ) [v10] fun v11 =>
 R v11
def JR (w0 : World) (E R : Value → W) (cP : Value) (jQ : Value → W) : W :=
 pr (.aN .add) [cP, (vi 1)] fun cD =>
 jQ cD
def JS (w0 : World) (E R : Value → W) (cP : Value) (jQ : Value → W) (eQ : Value) : W :=
 br eQ (
 R (.bool false)) (
 JR w0 E R cP jQ)
def JT (w0 : World) (E R : Value → W) (b9 cP v5 : Value) (jQ : Value → W) : W :=
 pr (.cV 4) [b9, cP] fun dB =>
 pr (.bo 4) [dB] fun v20 =>
 pr (.alloc 67 [(vi 0), (vi 0), (vi 0), (vi 0)]) [] fun v21 =>
 pr (.store 4) [v21, v20] fun aZ =>
 pr (.fieldAddr 0) [v21] fun bZ =>
 pr (.aL) [bZ] fun v24 =>
 cl PP w0 qL [v24] E fun ft =>
 pr (.extract 0) [ft] fun eo =>
 pr (.extract 1) [ft] fun dm =>
 pr (.alloc 138 [(bs []), (vi 0), (vi 0), (vi 0), (vi 0), (vi 0), (vi 0), (.bool false), (.bool false)]) [] fun v28 =>
 pr (.store 9) [v28, eo] fun du =>
 pr (.dQ) [dm] fun v30 =>
 gd v30 false (fun k => pr (.bo 4) [v21] k) fun v31 =>
 gd v30 false (fun k => cl PP w0 ED [v31] E k) fun eC =>
 gd v30 false (fun k => pr (.uF (.func EJ) 0) [v5] k) fun iI =>
 gd v30 false (fun k => cl PP w0 JC [eC, iI] E k) fun fu =>
 pr (.pick) [v30, (.bool true), fu] fun eQ =>
 JS w0 E R cP jQ eQ
def EL (w0 : World) (E R : Value → W) (bP b9 v5 v1 : Value) (jQ : Value → W) (cP : Value) : W :=
 pr (.aN .lss) [cP, bP] fun dA =>
 br dA (
 JT w0 E R b9 cP v5 jQ) (
 JQ w0 E R v1 v5)
def JU (w0 : World) (E R : Value → W) (v1 v5 : Value) : W :=
 pr (.fieldAddr 5) [v1] fun v12 =>
 pr (.aL) [v12] fun b9 =>
 pr (.cO) [b9] fun bP =>
 LP (α := Value) (fun k a => EL w0 E R bP b9 v5 v1 k a) ((vi 0))
def JV (w0 : World) (E R : Value → W) (v1 v5 v53 : Value) : W :=
 br v53 (
 R (.bool false)) (
 JU w0 E R v1 v5)
def JW (w0 : World) (E R : Value → W) (v1 v5 gw : Value) : W :=
 gd gw false (fun k => pr (.fieldAddr 4) [v1] k) fun v49 =>
 gd gw false (fun k => pr (.aL) [v49] k) fun im =>
 gd gw false (fun k => cl PP w0 qK [im, (vi 0), (vi 200)] E k) fun v51 =>
 gd gw false (fun k => pr (.dQ) [v51] k) fun iq =>
 pr (.pick) [gw, (.bool true), iq] fun v53 =>
 JV w0 E R v1 v5 v53
def JX (w0 : World) (E R : Value → W) (v1 v5 dq : Value) : W :=
 gd dq false (fun k => pr (.fieldAddr 3) [v1] k) fun fU =>
 gd dq false (fun k => pr (.aL) [fU] k) fun lI =>
 gd dq false (fun k => cl PP w0 qK [lI, (vi 0), (vi 200)] E k) fun v46 =>
 gd dq false (fun k => pr (.dQ) [v46] k) fun kb =>
 pr (.pick) [dq, (.bool true), kb] fun gw =>
 JW w0 E R v1 v5 gw
def Tf (w0 : World) (E R : Value → W) (x0 : Value) : W :=
 pr (.box 25) [x0] fun v1 =>
 pr (.fieldAddr 5) [v1] fun v2 =>
 pr (.aL) [v2] fun v3 =>
 pr (.cO) [v3] fun v4 =>
 pr (.alloc 3 [(vi 0)]) [] fun v5 =>
 pr (.store 1) [v5, v4] fun v6 =>
 pr (.aL) [v5] fun dW =>
 cl PP w0 qK [dW, (vi 1), (vi 600)] E fun v37 =>
 pr (.dQ) [v37] fun hY =>
 gd hY false (fun k => pr (.fieldAddr 6) [v1] k) fun eR =>
 gd hY false (fun k => pr (.aL) [eR] k) fun v40 =>
 gd hY false (fun k => pr (.cO) [v40] k) fun lH =>
 gd hY false (fun k => pr (.aN .gtr) [lH, (vi 40)] k) fun jw =>
 pr (.pick) [hY, (.bool true), jw] fun dq =>
 JX w0 E R v1 v5 dq
theorem abX {w0 : World} {h : AH} {Q : CR → AH → Prop} (x0 : Value) (H : Tf w0 (fun v h => Q (.aP v) h) (fun v h => Q (.ret v) h) x0 h) : WF PP w0 xv [x0] h Q :=
 dM bE e53 [[zW]] (by kernel_rfl) (Eq.mp (by kernel_rfl) H)
def JY (w0 : World) (E R : Value → W)  : W :=
 R (vi (-1))
def JZ (w0 : World) (E R : Value → W) (y3 : Value) (k2 : Value → W) : W :=
 pr (.aN .add) [y3, (vi 1)] fun v5 =>
 k2 v5
def J0 (w0 : World) (E R : Value → W) (x0 y3 x1 : Value) (k2 : Value → W) : W :=
 pr (.cV 1) [x0, y3] fun v6 =>
 pr (.aL) [v6] fun v7 =>
 pr (.aN .eql) [x1, v7] fun v8 =>
 br v8 (
 R y3) (
 JZ w0 E R y3 k2)
def EM (w0 : World) (E R : Value → W) (v1 x0 x1 : Value) (k2 : Value → W) (y3 : Value) : W :=
 pr (.aN .lss) [y3, v1] fun v4 =>
 br v4 (
 J0 w0 E R x0 y3 x1 k2) (
 JY w0 E R )
def Tg (w0 : World) (E R : Value → W) (x0 x1 : Value) : W :=
 pr (.cO) [x0] fun v1 =>
 LP (α := Value) (fun k a => EM w0 E R v1 x0 x1 k a) ((vi 0))
theorem abY {w0 : World} {h : AH} {Q : CR → AH → Prop} (x0 x1 : Value) (H : Tg w0 (fun v h => Q (.aP v) h) (fun v h => Q (.ret v) h) x0 x1 h) : WF PP w0 J2 [x0, x1] h Q :=
 dM bE abZ [[s8]] (by kernel_rfl) (Eq.mp (by kernel_rfl) H)
def Th (w0 : World) (E R : Value → W) (x0 x1 : Value) : W :=
 cl PP w0 J2 [x0, x1] E fun v1 =>
 pr (.aN .geq) [v1, (vi 0)] fun v2 =>
 R v2
theorem ab0 {w0 : World} {h : AH} {Q : CR → AH → Prop} (x0 x1 : Value) (H : Th w0 (fun v h => Q (.aP v) h) (fun v h => Q (.ret v) h) x0 x1 h) : WF PP w0 J3 [x0, x1] h Q :=
 dM bE e90 [] (by kernel_rfl) (Eq.mp (by kernel_rfl) H)
def EN (w0 : World) (E R : Value → W) (v3 : Value) (d4 : List Nat) : W :=
 pr (.aL) [v3] fun v5 =>
 jb (d4) (
 R v5)
def EO (w0 : World) (E R : Value → W) (v3 : Value) (o8 : LO) (n9 : Nat) (aV aO : Value) : W :=
 qN o8 n9 (
 mO o8 n9 (
 pr (.aL) [v3] fun cQ =>
 cl PP w0 J3 [cQ, aV] ox fun bC =>
 pr (.dQ) [bC] fun dA =>
 br dA (
 pr (.aL) [v3] fun cD =>
 pr (.buildSlice 3 1 [(vi 0)] [(0,1)]) [aV] fun dB =>
 pr (.append 3 1 [(vi 0)]) [cD, dB] fun v20 =>
 pr (.store 1) [v3, v20] fun v21 =>
 jx o8 n9 .ready none true R) (
 jx o8 n9 .ready none true R)))
def EP (w0 : World) (E R : Value → W) (v1 x1 : Value) (d2 : List Nat) : W :=
 pr (.alloc 28 [cH]) [] fun v3 =>
 pr (.bo 7) [v1] fun v6 =>
 cl PP w0 zV [v6, x1] (cE (d2) E) fun v7 =>
 xw PP w0 v7 (fun o8 n9 Ti R => zX (fun aV aO => EO w0 ox R v3 o8 n9 aV aO) Ti) (fun oy => cE (oy :: d2) E) (fun oy z11 => sE z11 (
 EN w0 E R v3 (oy :: d2)) (
 (fun _ => False)) [])
def ES (w0 : World) (E R : Value → W) (v1 x1 eC : Value) : W :=
 br eC (
 jb (([] : List Nat)) (
 R cH)) (
 EP w0 E R v1 x1 (([] : List Nat)))
def Tj (w0 : World) (E R : Value → W) (x0 x1 : Value) : W :=
 pr (.box 25) [x0] fun v1 =>
 pr (.bo 7) [v1] fun aZ =>
 cl PP w0 xv [aZ] (cE (([] : List Nat)) E) fun bZ =>
 pr (.dQ) [bZ] fun v24 =>
 gd v24 false (fun k => k x1) fun ft =>
 gd v24 false (fun k => pr (.fieldAddr 5) [v1] k) fun eo =>
 gd v24 false (fun k => pr (.aL) [eo] k) fun dm =>
 gd v24 false (fun k => pr (.cO) [dm] k) fun v28 =>
 gd v24 false (fun k => pr (.aN .sub) [v28, (vi 1)] k) fun du =>
 gd v24 false (fun k => cl PP w0 qK [ft, (vi 0), du] (cE (([] : List Nat)) E) k) fun v30 =>
 gd v24 false (fun k => pr (.dQ) [v30] k) fun v31 =>
 pr (.pick) [v24, (.bool true), v31] fun eC =>
 ES w0 E R v1 x1 eC
theorem ab1 {w0 : World} {h : AH} {Q : CR → AH → Prop} (x0 : Value) (x1 : Value) (H : Tj w0 (fun v h => Q (.aP v) h) (fun v h => Q (.ret v) h) x0 x1 h) : WF PP w0 J4 [x0, x1] h Q := by
 let E : Value → W := fun v h => Q (.aP v) h
 let R : Value → W := fun v h => Q (.ret v) h
 refine ET bE e32 ?_
 refine eY ?_
 refine dX ?_
 refine bh (vs := [x0]) (by kernel_rfl) H fun v1 h H => ?_
 refine fw (v := cH) (by kernel_rfl) ?_
 refine dY ?_
 refine eZ ?_
 refine qO (rs := ([] : List Nat)) (α := Unit) [(s1, x1), (s2, v1)] (fun a => []) (fun σ => ()) (fun a q => EP w0 E R v1 x1  q) (fun σ => trivial) (fun a1 d2 σ h H => ?_) ?_
 · refine eY ?_
   refine dX ?_
   refine bh (vs := []) (by kernel_rfl) H fun v3 h H => ?_
   refine dY ?_
   refine eZ ?_
   refine qO (rs := d2) (α := Unit) [(s5, v3)] (fun a => []) (fun σ => ()) (fun a q => EN w0 E R v3  q) (fun σ => trivial) (fun a2 d4 σ h H => ?_) ?_
   · refine eY ?_
     refine dX ?_
     refine bh (vs := [v3]) (by kernel_rfl) H fun v5 h H => ?_
     refine fw (v := v5) (by kernel_rfl) ?_
     refine dY ?_
     refine eZ ?_
     exact xx (P := PP) (w0 := w0) uH.results Q (d4) (by kernel_rfl) (Eq.mp (by kernel_rfl) H)
   · refine eY ?_
     refine dX ?_
     refine bh (vs := [v1]) (by kernel_rfl) H fun v6 h H => ?_
     refine fw (v := x1) (by kernel_rfl) ?_
     refine sF (vs := [v6, x1]) (by kernel_rfl) H (fun _ _ H => oz (P := PP) (w0 := w0) uH.results Q (d2) (by kernel_rfl) H) fun v7 h H => ?_
     refine dY ?_
     refine eZ ?_
     refine pJ ?_
     refine J5 bE (rs := d2) _ _ _ _ _ (fv := v7) (by kernel_rfl) H (fun oy _ _ H => oz (P := PP) (w0 := w0) uH.results Q (oy :: d2) (by kernel_rfl) H) (fun oy h H => ?_) (fun oy h H => ?_) (fun oy => trivial) (fun o8 Tk n9 Ti R h H => ?_)
     · refine nF ?_
       exact Exists.intro (oy :: d2) (Eq.mp (by kernel_rfl) (And.intro (Eq.refl (gK (oy :: d2))) (And.intro (And.intro (Eq.refl (v3 : Value)) trivial) H)))
     · exact False.elim H
     · obtain ⟨aV, aO, rfl, H⟩ := J6 H
       let E : Value → W := ox
       have H2 := J7 H
       refine ⟨H2.1, rfl, ?_⟩
       have H := H2.2
       refine dX ?_
       refine fw (v := aV) (by kernel_rfl) ?_
       refine dY ?_
       refine J8 H (fun h H => ?_)
       refine pJ ?_
       refine eY ?_
       refine dX ?_
       refine bh (vs := [v3]) (by kernel_rfl) H fun cQ h H => ?_
       refine fw (v := aV) (by kernel_rfl) ?_
       refine sF (vs := [cQ, aV]) (by kernel_rfl) H (fun _ _ H => False.elim H) fun bC h H => ?_
       refine bh (vs := [bC]) (by kernel_rfl) H fun dA h H => ?_
       refine dY ?_
       refine eZ ?_
       refine pK (v := dA) (by kernel_rfl) H (fun H => ?_) (fun H => ?_)
       · refine dX ?_
         refine bh (vs := [v3]) (by kernel_rfl) H fun cD h H => ?_
         refine fw (v := aV) (by kernel_rfl) ?_
         refine bh (vs := [aV]) (by kernel_rfl) H fun dB h H => ?_
         refine bh (vs := [cD, dB]) (by kernel_rfl) H fun v20 h H => ?_
         refine bh (vs := [v3, v20]) (by kernel_rfl) H fun v21 h H => ?_
         refine dY ?_
         refine nF ?_
         exact Eq.mp (by kernel_rfl) (And.intro (Eq.refl ([] : List fa)) H)
       · refine qP ?_
         refine nF ?_
         exact Eq.mp (by kernel_rfl) (And.intro (Eq.refl ([] : List fa)) H)
 · refine eY ?_
   refine dX ?_
   refine bh (vs := [v1]) (by kernel_rfl) H fun aZ h H => ?_
   refine sF (vs := [aZ]) (by kernel_rfl) H (fun _ _ H => oz (P := PP) (w0 := w0) uH.results Q (([] : List Nat)) (by kernel_rfl) H) fun bZ h H => ?_
   refine bh (vs := [bZ]) (by kernel_rfl) H fun v24 h H => ?_
   refine fw (v := v24) (by kernel_rfl) ?_
   refine ab2 (v := x1) (gv := v24) (by kernel_rfl) (by kernel_rfl) H fun ft h H => ?_
   refine kD (vs := [v1]) (gv := v24) (by kernel_rfl) (by kernel_rfl) H fun eo h H => ?_
   refine kD (vs := [eo]) (gv := v24) (by kernel_rfl) (by kernel_rfl) H fun dm h H => ?_
   refine kD (vs := [dm]) (gv := v24) (by kernel_rfl) (by kernel_rfl) H fun v28 h H => ?_
   refine kD (vs := [v28, (vi 1)]) (gv := v24) (by kernel_rfl) (by kernel_rfl) H fun du h H => ?_
   refine ab3 (vs := [ft, (vi 0), du]) (gv := v24) (by kernel_rfl) (by kernel_rfl) H (fun _ _ H => oz (P := PP) (w0 := w0) uH.results Q (([] : List Nat)) (by kernel_rfl) H) fun v30 h H => ?_
   refine kD (vs := [v30]) (gv := v24) (by kernel_rfl) (by kernel_rfl) H fun v31 h H => ?_
   refine bh (vs := [v24, (.bool true), v31]) (by kernel_rfl) H fun eC h H => ?_
   unfold ES at H
   refine dY ?_
   refine eZ ?_
   refine pK (v := eC) (by kernel_rfl) H (fun H => ?_) (fun H => ?_)
   · refine eY ?_
     refine dX ?_
     refine fw (v := cH) (by kernel_rfl) ?_
     refine dY ?_
     refine eZ ?_
     exact xx (P := PP) (w0 := w0) uH.results Q (([] : List Nat)) (by kernel_rfl) (Eq.mp (by kernel_rfl) H)
   · refine qP ?_
     exact Exists.intro (([] : List Nat)) (Eq.mp (by kernel_rfl) (And.intro (Eq.refl (gK (([] : List Nat)))) (And.intro (And.intro (Eq.refl (x1 : Value)) (And.intro (Eq.refl (v1 : Value)) trivial)) H)))
def J9 (w0 : World) (E R : Value → W)  : W :=
 R (.bool true)
def Ka (w0 : World) (E R : Value → W) (y2 : Value) (k1 : Value → W) : W :=
 pr (.aN .add) [y2, (vi 1)] fun v3 =>
 k1 v3
def Kb (w0 : World) (E R : Value → W) (x0 y2 x1 : Value) (k1 : Value → W) : W :=
 pr (.cV 1) [x0, y2] fun v4 =>
 pr (.aL) [v4] fun v5 =>
 pr (.cV 1) [x1, y2] fun v6 =>
 pr (.aL) [v6] fun v7 =>
 pr (.aN .neq) [v5, v7] fun v8 =>
 br v8 (
 R (.bool false)) (
 Ka w0 E R y2 k1)
def EU (w0 : World) (E R : Value → W) (x0 x1 : Value) (k1 : Value → W) (y2 : Value) : W :=
 pr (.cO) [x0] fun v9 =>
 pr (.aN .lss) [y2, v9] fun v10 =>
 br v10 (
 Kb w0 E R x0 y2 x1 k1) (
 J9 w0 E R )
def Kc (w0 : World) (E R : Value → W) (x0 x1 : Value) : W :=
 LP (α := Value) (fun k a => EU w0 E R x0 x1 k a) ((vi 0))
def Tl (w0 : World) (E R : Value → W) (x0 x1 : Value) : W :=
 pr (.cO) [x0] fun v11 =>
 pr (.cO) [x1] fun v12 =>
 pr (.aN .neq) [v11, v12] fun b9 =>
 br b9 (
 R (.bool false)) (
 Kc w0 E R x0 x1)
theorem ab4 {w0 : World} {h : AH} {Q : CR → AH → Prop} (x0 x1 : Value) (H : Tl w0 (fun v h => Q (.aP v) h) (fun v h => Q (.ret v) h) x0 x1 h) : WF PP w0 zY [x0, x1] h Q :=
 dM bE e16 [[s5]] (by kernel_rfl) (Eq.mp (by kernel_rfl) H)
def Kd (w0 : World) (E R : Value → W) (y9 : Value) : W :=
 R y9
def EV (w0 : World) (E R : Value → W) (aO : Value) (eb : Value → Value → W) (cP : Value) : W :=
 pr (.aN .add) [aO, (vi 1)] fun dA =>
 eb cP dA
def Ke (w0 : World) (E R : Value → W) (v1 cD aV aO : Value) (eb : Value → Value → W) (v28 : Value) : W :=
 br v28 (
 pr (.bo 4) [v1] fun du =>
 cl PP w0 xu [du] E fun v30 =>
 pr (.aN .sub) [cD, (vi 1)] fun v31 =>
 pr (.qM 3) [v30, v31] fun eC =>
 pr (.buildSlice 3 1 [(vi 0)] [(0,1)]) [eC] fun iI =>
 pr (.append 3 1 [(vi 0)]) [aV, iI] fun fu =>
 EV w0 E R aO eb fu) (
 EV w0 E R aO eb aV)
def Kf (w0 : World) (E R : Value → W) (v1 cD aV aO : Value) (eb : Value → Value → W) (v21 : Value) : W :=
 gd v21 true (fun k => pr (.bo 4) [v1] k) fun aZ =>
 gd v21 true (fun k => cl PP w0 xu [aZ] E k) fun bZ =>
 gd v21 true (fun k => k cD) fun v24 =>
 gd v21 true (fun k => pr (.aN .sub) [v24, (vi 1)] k) fun ft =>
 gd v21 true (fun k => pr (.qM 3) [bZ, ft] k) fun eo =>
 gd v21 true (fun k => pr (.aN .neq) [eo, (vi (-1))] k) fun dm =>
 pr (.pick) [v21, dm, (.bool false)] fun v28 =>
 Ke w0 E R v1 cD aV aO eb v28
def Kg (w0 : World) (E R : Value → W) (v11 aO v6 v1 aV : Value) (eb : Value → Value → W) : W :=
 pr (.qM 2) [v11, aO] fun cD =>
 gd v6 true (fun k => k cD) fun dB =>
 gd v6 true (fun k => pr (.aN .gtr) [dB, (vi 0)] k) fun v20 =>
 pr (.pick) [v6, v20, (.bool false)] fun v21 =>
 Kf w0 E R v1 cD aV aO eb v21
def EW (w0 : World) (E R : Value → W) (v11 v6 v1 : Value) (eb : Value → Value → W) (aV aO : Value) : W :=
 pr (.aN .lss) [aO, (vi 2)] fun cQ =>
 br cQ (
 Kg w0 E R v11 aO v6 v1 aV eb) (
 Kd w0 E R  aV)
def Tm (w0 : World) (E R : Value → W) (x0 : Value) : W :=
 pr (.box 67) [x0] fun v1 =>
 pr (.fieldAddr 0) [v1] fun v2 =>
 pr (.aL) [v2] fun v3 =>
 cl PP w0 qL [v3] E fun v4 =>
 pr (.extract 0) [v4] fun v5 =>
 pr (.extract 1) [v4] fun v6 =>
 pr (.alloc 138 [(bs []), (vi 0), (vi 0), (vi 0), (vi 0), (vi 0), (vi 0), (.bool false), (.bool false)]) [] fun v7 =>
 pr (.store 9) [v7, v5] fun v8 =>
 pr (.fieldAddr 5) [v7] fun v10 =>
 pr (.bo 2) [v10] fun v11 =>
 LP (α := Value × Value) (fun k a => EW w0 E R v11 v6 v1 (fun b0 b1 => k (b0, b1)) a.1 a.2) (cH, (vi 0))
theorem ab5 {w0 : World} {h : AH} {Q : CR → AH → Prop} (x0 : Value) (H : Tm w0 (fun v h => Q (.aP v) h) (fun v h => Q (.ret v) h) x0 h) : WF PP w0 Kh [x0] h Q :=
 dM bE e30 [[s5, lG]] (by kernel_rfl) (Eq.mp (by kernel_rfl) H)
def ab6 (w0 : World) (E R : Value → W) (y1 : Value) : W :=
 cl PP w0 Tn [y1] E fun v2 =>
 R y1
def ab7 (w0 : World) (E R : Value → W) (v3 y5 : Value) (k4 : Value → W) : W :=
 pr (.x .entry) [v3] fun v8 =>
 pr (.extract 0) [v8] fun v9 =>
 pr (.buildSlice 3 1 [(vi 0)] [(0,1)]) [v9] fun v10 =>
 pr (.append 3 1 [(vi 0)]) [y5, v10] fun v11 =>
 k4 v11
def ab8 (w0 : World) (E R : Value → W) (v3 : Value) (k4 : Value → W) (y5 : Value) : W :=
 pr (.x .zZ) [v3] fun v6 =>
 pr (.extract 0) [v6] fun v7 =>
 br v7 (
 ab7 w0 E R v3 y5 k4) (
 ab6 w0 E R  y5)
def To (w0 : World) (E R : Value → W) (x0 : Value) : W :=
 pr (.x .Ki) [x0] fun v3 =>
 LP (α := Value) (fun k a => ab8 w0 E R v3 k a) (cH)
theorem ab9 {w0 : World} {h : AH} {Q : CR → AH → Prop} (x0 : Value) (H : To w0 (fun v h => Q (.aP v) h) (fun v h => Q (.ret v) h) x0 h) : WF PP w0 Kj [x0] h Q :=
 dM bE e62 [[s3]] (by kernel_rfl) (Eq.mp (by kernel_rfl) H)
def EX (w0 : World) (E R : Value → W) (v5 : Value) (d7 : List Nat) : W :=
 pr (.aL) [v5] fun v8 =>
 cl PP w0 Kj [v8] (cE (d7) E) fun v9 =>
 jb (d7) (
 R v9)
def z6 (w0 : World) (E R : Value → W) (aO : Value) (eS : Value → List Nat → W) (d18 : List Nat) : W :=
 pr (.aN .add) [aO, (vi 1)] fun dB =>
 eS dB (d18)
def EY (w0 : World) (E R : Value → W) (v5 aZ aO : Value) (eS : Value → List Nat → W) (d26 : List Nat) (im : Value) : W :=
 br im (
 pr (.aL) [v5] fun v51 =>
 pr (.aL) [aZ] fun iq =>
 pr (.aN .add) [iq, (vi 1)] fun v53 =>
 pr (.oA 0) [v51, v53, (.bool true)] fun pI =>
 z6 w0 E R aO eS (d26)) (
 z6 w0 E R aO eS (d26))
def EZ (w0 : World) (E R : Value → W) (aZ v1 v5 aO : Value) (eS : Value → List Nat → W) (d26 : List Nat) (dq : Value) : W :=
 gd dq true (fun k => pr (.aL) [aZ] k) fun fU =>
 gd dq true (fun k => pr (.aN .add) [fU, (vi 1)] k) fun lI =>
 gd dq true (fun k => pr (.fieldAddr 5) [v1] k) fun v46 =>
 gd dq true (fun k => pr (.aL) [v46] k) fun kb =>
 gd dq true (fun k => pr (.cO) [kb] k) fun gw =>
 gd dq true (fun k => pr (.aN .lss) [lI, gw] k) fun v49 =>
 pr (.pick) [dq, v49, (.bool false)] fun im =>
 EY w0 E R v5 aZ aO eS d26 im
def E0 (w0 : World) (E R : Value → W) (bZ aZ v1 v5 aO : Value) (eS : Value → List Nat → W) (d26 : List Nat) (eR : Value) : W :=
 gd eR false (fun k => pr (.fieldAddr 0) [bZ] k) fun v40 =>
 gd eR false (fun k => pr (.aL) [v40] k) fun lH =>
 gd eR false (fun k => pr (.aN .eql) [lH, (vi 32)] k) fun jw =>
 pr (.pick) [eR, (.bool true), jw] fun dq =>
 EZ w0 E R aZ v1 v5 aO eS d26 dq
def E3 (w0 : World) (E R : Value → W) (bZ aZ v1 v5 aO : Value) (eS : Value → List Nat → W) (d26 : List Nat) : W :=
 pr (.fieldAddr 0) [bZ] fun dm =>
 pr (.aL) [dm] fun v28 =>
 cl PP w0 qL [v28] (cE (d26) E) fun du =>
 pr (.extract 0) [du] fun v30 =>
 pr (.extract 1) [du] fun v31 =>
 pr (.alloc 138 [(bs []), (vi 0), (vi 0), (vi 0), (vi 0), (vi 0), (vi 0), (.bool false), (.bool false)]) [] fun eC =>
 pr (.store 9) [eC, v30] fun iI =>
 pr (.fieldAddr 8) [eC] fun fu =>
 pr (.aL) [fu] fun eQ =>
 gd eQ false (fun k => pr (.fieldAddr 0) [bZ] k) fun dW =>
 gd eQ false (fun k => pr (.aL) [dW] k) fun v37 =>
 gd eQ false (fun k => pr (.aN .eql) [v37, (vi 25)] k) fun hY =>
 pr (.pick) [eQ, (.bool true), hY] fun eR =>
 E0 w0 E R bZ aZ v1 v5 aO eS d26 eR
def E4 (w0 : World) (E R : Value → W) (aZ v5 : Value) (uI : LO) (uJ : Nat) (kE mP : Value) : W :=
 qN uI uJ (
 mO uI uJ (
 pr (.de [1, 1]) [kE, mP] fun nG =>
 pr (.aL) [aZ] fun mQ =>
 pr (.aN .add) [mQ, (vi 1)] fun qQ =>
 pr (.de [1, 1]) [qQ, (vi 0)] fun la =>
 pr (.z7 true [0, 0]) [nG, la] fun qR =>
 br qR (
 pr (.aL) [v5] fun v70 =>
 pr (.oA 0) [v70, kE, (.bool true)] fun pL =>
 jx uI uJ .ready none true R) (
 jx uI uJ .ready none true R)))
def E5 (w0 : World) (E R : Value → W) (v11 aO v1 v5 : Value) (eS : Value → List Nat → W) (d17 : List Nat) : W :=
 pr (.cV 4) [v11, aO] fun v20 =>
 pr (.bo 4) [v20] fun v21 =>
 pr (.alloc 3 [(vi 0)]) [] fun aZ =>
 pr (.alloc 67 [(vi 0), (vi 0), (vi 0), (vi 0)]) [] fun bZ =>
 pr (.store 1) [aZ, aO] fun v24 =>
 pr (.store 4) [bZ, v21] fun ft =>
 pr (.bo 7) [v1] fun k9 =>
 pr (.aL) [aZ] fun me =>
 cl PP w0 zV [k9, me] (cE (d17) E) fun mR =>
 xw PP w0 mR (fun uI uJ Tp R => zX (fun kE mP => E4 w0 ox R aZ v5 uI uJ kE mP) Tp) (fun oB => cE (oB :: d17) E) (fun oB z61 => sE z61 (
 E3 w0 E R bZ aZ v1 v5 aO eS (oB :: d17)) (
 (fun _ => False)) [])
def z8 (w0 : World) (E R : Value → W) (v12 v11 v1 v5 : Value) (eS : Value → List Nat → W) (aO : Value) (d15 : List Nat) : W :=
 pr (.aN .lss) [aO, v12] fun bC =>
 br bC (
 E5 w0 E R v11 aO v1 v5 eS (d15)) (
 EX w0 E R v5 (d15))
def E6 (w0 : World) (E R : Value → W) (v1 : Value) (d2 : List Nat) : W :=
 pr (.mkMap) [] fun v3 =>
 pr (.oA 0) [v3, (vi 0), (.bool true)] fun v4 =>
 pr (.alloc 102 [(.map none)]) [] fun v5 =>
 pr (.store 1) [v5, v3] fun v6 =>
 pr (.fieldAddr 5) [v1] fun v10 =>
 pr (.aL) [v10] fun v11 =>
 pr (.cO) [v11] fun v12 =>
 LP (α := (Value) × List Nat) (fun k a => z8 w0 E R v12 v11 v1 v5 (fun b0 q => k ((b0), q)) a.1 a.2) (((vi 0)), d2)
def Tq (w0 : World) (E R : Value → W) (x0 : Value) : W :=
 pr (.box 25) [x0] fun v1 =>
 pr (.bo 7) [v1] fun v72 =>
 cl PP w0 xv [v72] (cE (([] : List Nat)) E) fun qS =>
 pr (.dQ) [qS] fun qT =>
 br qT (
 jb (([] : List Nat)) (
 R cH)) (
 E6 w0 E R v1 (([] : List Nat)))
theorem aca {w0 : World} {h : AH} {Q : CR → AH → Prop} (x0 : Value) (H : Tq w0 (fun v h => Q (.aP v) h) (fun v h => Q (.ret v) h) x0 h) : WF PP w0 Kk [x0] h Q := by
 let E : Value → W := fun v h => Q (.aP v) h
 let R : Value → W := fun v h => Q (.ret v) h
 refine ET bE e36 ?_
 refine eY ?_
 refine dX ?_
 refine bh (vs := [x0]) (by kernel_rfl) H fun v1 h H => ?_
 refine fw (v := cH) (by kernel_rfl) ?_
 refine dY ?_
 refine eZ ?_
 refine qO (rs := ([] : List Nat)) (α := Unit) [(s1, v1)] (fun a => []) (fun σ => ()) (fun a q => E6 w0 E R v1  q) (fun σ => trivial) (fun a1 d2 σ h H => ?_) ?_
 · refine eY ?_
   refine dX ?_
   refine bh (vs := []) (by kernel_rfl) H fun v3 h H => ?_
   refine bh (vs := [v3, (vi 0), (.bool true)]) (by kernel_rfl) H fun v4 h H => ?_
   refine fw (v := v3) (by kernel_rfl) ?_
   refine bh (vs := []) (by kernel_rfl) H fun v5 h H => ?_
   refine bh (vs := [v5, v3]) (by kernel_rfl) H fun v6 h H => ?_
   refine dY ?_
   refine eZ ?_
   refine qO (rs := d2) (α := Unit) [(s3, v5)] (fun a => []) (fun σ => ()) (fun a q => EX w0 E R v5  q) (fun σ => trivial) (fun a2 d7 σ h H => ?_) ?_
   · refine eY ?_
     refine dX ?_
     refine bh (vs := [v5]) (by kernel_rfl) H fun v8 h H => ?_
     refine sF (vs := [v8]) (by kernel_rfl) H (fun _ _ H => oz (P := PP) (w0 := w0) sG.results Q (d7) (by kernel_rfl) H) fun v9 h H => ?_
     refine fw (v := v9) (by kernel_rfl) ?_
     refine dY ?_
     refine eZ ?_
     exact xx (P := PP) (w0 := w0) sG.results Q (d7) (by kernel_rfl) (Eq.mp (by kernel_rfl) H)
   · refine eY ?_
     refine dX ?_
     refine bh (vs := [v1]) (by kernel_rfl) H fun v10 h H => ?_
     refine bh (vs := [v10]) (by kernel_rfl) H fun v11 h H => ?_
     refine bh (vs := [v11]) (by kernel_rfl) H fun v12 h H => ?_
     refine fw (v := (vi 0)) (by kernel_rfl) ?_
     refine dY ?_
     refine eZ ?_
     refine pJ ?_
     refine Tr bE (rs := d2) (α := Value) [(s1, v1), (s3, v5), (lG, v11), (nH, v12)] (fun a => [(kF, a)]) (fun σ => (σ kF)) (fun k a => z8 w0 E R v12 v11 v1 v5 (fun b0 q => k ((b0), q)) a.1 a.2) (fun σ => (And.intro rfl trivial)) (fun Kl a3 d15 σ h H => ?_) (x := ((vi 0))) (by kernel_rfl) (Eq.mp (by kernel_rfl) (And.intro (Eq.refl (v1 : Value)) (And.intro (Eq.refl (v5 : Value)) (And.intro (Eq.refl (v11 : Value)) (And.intro (Eq.refl (v12 : Value)) trivial))))) H
     refine eY ?_
     refine dX ?_
     refine bh (vs := [a3, v12]) (by kernel_rfl) H fun bC h H => ?_
     refine dY ?_
     refine eZ ?_
     refine qO (rs := d15) (α := Unit) [(s1, v1), (s3, v5), (lG, v11), (nH, v12), (kF, a3)] (fun a => []) (fun σ => ()) (fun a q => E5 w0 E R v11 a3 v1 v5 (fun b0 q => Kl ((b0), q))  q) (fun σ => trivial) (fun a4 d17 σ h H => ?_) ?_
     · refine qO (rs := d17) (α := Unit) [(s1, v1), (s3, v5), (lG, v11), (nH, v12), (kF, a3)] (fun a => []) (fun σ => ()) (fun a q => z6 w0 E R a3 (fun b0 q => Kl ((b0), q))  q) (fun σ => trivial) (fun a5 d18 σ h H => ?_) ?_
       · refine dX ?_
         refine bh (vs := [a3, (vi 1)]) (by kernel_rfl) H fun dB h H => ?_
         refine fw (v := dB) (by kernel_rfl) ?_
         refine dY ?_
         exact Exists.intro (d18) (Eq.mp (by kernel_rfl) (And.intro (Eq.refl (gK (d18))) (And.intro (And.intro (Eq.refl (v1 : Value)) (And.intro (Eq.refl (v5 : Value)) (And.intro (Eq.refl (v11 : Value)) (And.intro (Eq.refl (v12 : Value)) trivial)))) H)))
       · refine pJ ?_
         refine eY ?_
         refine dX ?_
         refine fw (v := a3) (by kernel_rfl) ?_
         refine bh (vs := [v11, a3]) (by kernel_rfl) H fun v20 h H => ?_
         refine bh (vs := [v20]) (by kernel_rfl) H fun v21 h H => ?_
         refine bh (vs := []) (by kernel_rfl) H fun aZ h H => ?_
         refine bh (vs := []) (by kernel_rfl) H fun bZ h H => ?_
         refine bh (vs := [aZ, a3]) (by kernel_rfl) H fun v24 h H => ?_
         refine bh (vs := [bZ, v21]) (by kernel_rfl) H fun ft h H => ?_
         refine dY ?_
         refine eZ ?_
         refine qO (rs := d17) (α := Unit) [(s1, v1), (s3, v5), (s4, aZ), (s5, bZ), (lG, v11), (nH, v12), (kF, a3)] (fun a => []) (fun σ => ()) (fun a q => E3 w0 E R bZ aZ v1 v5 a3 (fun b0 q => Kl ((b0), q))  q) (fun σ => trivial) (fun a6 d26 σ h H => ?_) ?_
         · refine eY ?_
           refine dX ?_
           refine bh (vs := [bZ]) (by kernel_rfl) H fun dm h H => ?_
           refine bh (vs := [dm]) (by kernel_rfl) H fun v28 h H => ?_
           refine sF (vs := [v28]) (by kernel_rfl) H (fun _ _ H => oz (P := PP) (w0 := w0) sG.results Q (d26) (by kernel_rfl) H) fun du h H => ?_
           refine fw (v := du) (by kernel_rfl) ?_
           refine bh (vs := [du]) (by kernel_rfl) H fun v30 h H => ?_
           refine bh (vs := [du]) (by kernel_rfl) H fun v31 h H => ?_
           refine bh (vs := []) (by kernel_rfl) H fun eC h H => ?_
           refine bh (vs := [eC, v30]) (by kernel_rfl) H fun iI h H => ?_
           refine fw (v := v31) (by kernel_rfl) ?_
           refine dY ?_
           refine eZ ?_
           refine eY ?_
           refine dX ?_
           refine bh (vs := [eC]) (by kernel_rfl) H fun fu h H => ?_
           refine bh (vs := [fu]) (by kernel_rfl) H fun eQ h H => ?_
           refine fw (v := eQ) (by kernel_rfl) ?_
           refine kD (vs := [bZ]) (gv := eQ) (by kernel_rfl) (by kernel_rfl) H fun dW h H => ?_
           refine kD (vs := [dW]) (gv := eQ) (by kernel_rfl) (by kernel_rfl) H fun v37 h H => ?_
           refine kD (vs := [v37, (vi 25)]) (gv := eQ) (by kernel_rfl) (by kernel_rfl) H fun hY h H => ?_
           refine bh (vs := [eQ, (.bool true), hY]) (by kernel_rfl) H fun eR h H => ?_
           unfold E0 at H
           refine fw (v := eR) (by kernel_rfl) ?_
           refine kD (vs := [bZ]) (gv := eR) (by kernel_rfl) (by kernel_rfl) H fun v40 h H => ?_
           refine kD (vs := [v40]) (gv := eR) (by kernel_rfl) (by kernel_rfl) H fun lH h H => ?_
           refine kD (vs := [lH, (vi 32)]) (gv := eR) (by kernel_rfl) (by kernel_rfl) H fun jw h H => ?_
           refine bh (vs := [eR, (.bool true), jw]) (by kernel_rfl) H fun dq h H => ?_
           unfold EZ at H
           refine fw (v := dq) (by kernel_rfl) ?_
           refine kD (vs := [aZ]) (gv := dq) (by kernel_rfl) (by kernel_rfl) H fun fU h H => ?_
           refine kD (vs := [fU, (vi 1)]) (gv := dq) (by kernel_rfl) (by kernel_rfl) H fun lI h H => ?_
           refine kD (vs := [v1]) (gv := dq) (by kernel_rfl) (by kernel_rfl) H fun v46 h H => ?_
           refine kD (vs := [v46]) (gv := dq) (by kernel_rfl) (by kernel_rfl) H fun kb h H => ?_
           refine kD (vs := [kb]) (gv := dq) (by kernel_rfl) (by kernel_rfl) H fun gw h H => ?_
           refine kD (vs := [lI, gw]) (gv := dq) (by kernel_rfl) (by kernel_rfl) H fun v49 h H => ?_
           refine bh (vs := [dq, v49, (.bool false)]) (by kernel_rfl) H fun im h H => ?_
           unfold EY at H
           refine dY ?_
           refine eZ ?_
           refine pK (v := im) (by kernel_rfl) H (fun H => ?_) (fun H => ?_)
           · refine dX ?_
             refine bh (vs := [v5]) (by kernel_rfl) H fun v51 h H => ?_
             refine bh (vs := [aZ]) (by kernel_rfl) H fun iq h H => ?_
             refine bh (vs := [iq, (vi 1)]) (by kernel_rfl) H fun v53 h H => ?_
             refine bh (vs := [v51, v53, (.bool true)]) (by kernel_rfl) H fun pI h H => ?_
             refine dY ?_
             refine nF ?_
             exact Exists.intro (d26) (Eq.mp (by kernel_rfl) (And.intro (Eq.refl (gK (d26))) (And.intro (And.intro (Eq.refl (v1 : Value)) (And.intro (Eq.refl (v5 : Value)) (And.intro (Eq.refl (v11 : Value)) (And.intro (Eq.refl (v12 : Value)) (And.intro (Eq.refl (a3 : Value)) trivial))))) H)))
           · refine qP ?_
             refine nF ?_
             exact Exists.intro (d26) (Eq.mp (by kernel_rfl) (And.intro (Eq.refl (gK (d26))) (And.intro (And.intro (Eq.refl (v1 : Value)) (And.intro (Eq.refl (v5 : Value)) (And.intro (Eq.refl (v11 : Value)) (And.intro (Eq.refl (v12 : Value)) (And.intro (Eq.refl (a3 : Value)) trivial))))) H)))
         · refine eY ?_
           refine dX ?_
           refine bh (vs := [v1]) (by kernel_rfl) H fun k9 h H => ?_
           refine bh (vs := [aZ]) (by kernel_rfl) H fun me h H => ?_
           refine sF (vs := [k9, me]) (by kernel_rfl) H (fun _ _ H => oz (P := PP) (w0 := w0) sG.results Q (d17) (by kernel_rfl) H) fun mR h H => ?_
           refine dY ?_
           refine eZ ?_
           refine pJ ?_
           refine J5 bE (rs := d17) _ _ _ _ _ (fv := mR) (by kernel_rfl) H (fun oB _ _ H => oz (P := PP) (w0 := w0) sG.results Q (oB :: d17) (by kernel_rfl) H) (fun oB h H => ?_) (fun oB h H => ?_) (fun oB => trivial) (fun uI Tk uJ Tp R h H => ?_)
           · refine nF ?_
             exact Exists.intro (oB :: d17) (Eq.mp (by kernel_rfl) (And.intro (Eq.refl (gK (oB :: d17))) (And.intro (And.intro (Eq.refl (v1 : Value)) (And.intro (Eq.refl (v5 : Value)) (And.intro (Eq.refl (aZ : Value)) (And.intro (Eq.refl (bZ : Value)) (And.intro (Eq.refl (v11 : Value)) (And.intro (Eq.refl (v12 : Value)) (And.intro (Eq.refl (a3 : Value)) trivial))))))) H)))
           · exact False.elim H
           · obtain ⟨kE, mP, rfl, H⟩ := J6 H
             let E : Value → W := ox
             have H2 := J7 H
             refine ⟨H2.1, rfl, ?_⟩
             have H := H2.2
             refine eY ?_
             refine dX ?_
             refine fw (v := kE) (by kernel_rfl) ?_
             refine dY ?_
             refine eZ ?_
             refine dX ?_
             refine fw (v := mP) (by kernel_rfl) ?_
             refine dY ?_
             refine J8 H (fun h H => ?_)
             refine pJ ?_
             refine eY ?_
             refine dX ?_
             refine fw (v := kE) (by kernel_rfl) ?_
             refine fw (v := mP) (by kernel_rfl) ?_
             refine bh (vs := [kE, mP]) (by kernel_rfl) H fun nG h H => ?_
             refine bh (vs := [aZ]) (by kernel_rfl) H fun mQ h H => ?_
             refine bh (vs := [mQ, (vi 1)]) (by kernel_rfl) H fun qQ h H => ?_
             refine bh (vs := [qQ, (vi 0)]) (by kernel_rfl) H fun la h H => ?_
             refine bh (vs := [nG, la]) (by kernel_rfl) H fun qR h H => ?_
             refine dY ?_
             refine eZ ?_
             refine pK (v := qR) (by kernel_rfl) H (fun H => ?_) (fun H => ?_)
             · refine dX ?_
               refine bh (vs := [v5]) (by kernel_rfl) H fun v70 h H => ?_
               refine fw (v := kE) (by kernel_rfl) ?_
               refine bh (vs := [v70, kE, (.bool true)]) (by kernel_rfl) H fun pL h H => ?_
               refine dY ?_
               refine nF ?_
               exact Eq.mp (by kernel_rfl) (And.intro (Eq.refl ([] : List fa)) H)
             · refine qP ?_
               refine nF ?_
               exact Eq.mp (by kernel_rfl) (And.intro (Eq.refl ([] : List fa)) H)
     · refine pK (v := bC) (by kernel_rfl) H (fun H => ?_) (fun H => ?_)
       · refine qP ?_
         exact Exists.intro (d15) (Eq.mp (by kernel_rfl) (And.intro (Eq.refl (gK (d15))) (And.intro (And.intro (Eq.refl (v1 : Value)) (And.intro (Eq.refl (v5 : Value)) (And.intro (Eq.refl (v11 : Value)) (And.intro (Eq.refl (v12 : Value)) (And.intro (Eq.refl (a3 : Value)) trivial))))) H)))
       · exact Exists.intro (d15) (Eq.mp (by kernel_rfl) (And.intro (Eq.refl (gK (d15))) (And.intro (And.intro (Eq.refl (v5 : Value)) trivial) H)))
 · refine eY ?_
   refine dX ?_
   refine bh (vs := [v1]) (by kernel_rfl) H fun v72 h H => ?_
   refine sF (vs := [v72]) (by kernel_rfl) H (fun _ _ H => oz (P := PP) (w0 := w0) sG.results Q (([] : List Nat)) (by kernel_rfl) H) fun qS h H => ?_
   refine bh (vs := [qS]) (by kernel_rfl) H fun qT h H => ?_
   refine dY ?_
   refine eZ ?_
   refine pK (v := qT) (by kernel_rfl) H (fun H => ?_) (fun H => ?_)
   · refine eY ?_
     refine dX ?_
     refine fw (v := cH) (by kernel_rfl) ?_
     refine dY ?_
     refine eZ ?_
     exact xx (P := PP) (w0 := w0) sG.results Q (([] : List Nat)) (by kernel_rfl) (Eq.mp (by kernel_rfl) H)
   · refine qP ?_
     exact Exists.intro (([] : List Nat)) (Eq.mp (by kernel_rfl) (And.intro (Eq.refl (gK (([] : List Nat)))) (And.intro (And.intro (Eq.refl (v1 : Value)) trivial) H)))
def Km (w0 : World) (E R : Value → W) (v1 v7 : Value) : W :=
 pr (.bo 4) [v1] fun v9 =>
 pr (.fieldAddr 4) [v7] fun v10 =>
 pr (.aL) [v10] fun v11 =>
 pr (.aN .sub) [v11, (vi 1)] fun v12 =>
 cl PP w0 xu [v9] E fun b9 =>
 ck (.aN .sub) [v11, (vi 1)] v12 (
 ck (.aL) [v10] v11 (
 ck (.fieldAddr 4) [v7] v10 (
 pr (.qM 3) [b9, v12] fun bP =>
 R bP)))
def Ts (w0 : World) (E R : Value → W) (x0 : Value) : W :=
 pr (.box 67) [x0] fun v1 =>
 pr (.fieldAddr 0) [v1] fun v2 =>
 pr (.aL) [v2] fun v3 =>
 cl PP w0 qL [v3] E fun v4 =>
 pr (.extract 0) [v4] fun v5 =>
 pr (.extract 1) [v4] fun v6 =>
 pr (.alloc 138 [(bs []), (vi 0), (vi 0), (vi 0), (vi 0), (vi 0), (vi 0), (.bool false), (.bool false)]) [] fun v7 =>
 pr (.store 9) [v7, v5] fun v8 =>
 pr (.fieldAddr 4) [v7] fun cQ =>
 pr (.aL) [cQ] fun bC =>
 pr (.aN .eql) [bC, (vi 0)] fun dA =>
 br dA (
 R (vi (-1))) (
 Km w0 E R v1 v7)
theorem acb {w0 : World} {h : AH} {Q : CR → AH → Prop} (x0 : Value) (H : Ts w0 (fun v h => Q (.aP v) h) (fun v h => Q (.ret v) h) x0 h) : WF PP w0 Kn [x0] h Q :=
 dM bE e38 [] (by kernel_rfl) (Eq.mp (by kernel_rfl) H)
def Ko (w0 : World) (E R : Value → W) (v1 bC : Value) : W :=
 gd bC true (fun k => pr (.fieldAddr 6) [v1] k) fun dA =>
 gd bC true (fun k => pr (.aL) [dA] k) fun cD =>
 gd bC true (fun k => pr (.cO) [cD] k) fun dB =>
 gd bC true (fun k => pr (.aN .leq) [dB, (vi 8)] k) fun v20 =>
 gd bC true (fun k => k v20) fun v21 =>
 gd v21 false (fun k => pr (.fieldAddr 6) [v1] k) fun aZ =>
 gd v21 false (fun k => pr (.aL) [aZ] k) fun bZ =>
 gd v21 false (fun k => pr (.cO) [bZ] k) fun v24 =>
 gd v21 false (fun k => pr (.aN .gtr) [v24, (vi 40)] k) fun ft =>
 gd v21 false (fun k => k ft) fun eo =>
 gd eo true (fun k => pr (.fieldAddr 6) [v1] k) fun dm =>
 gd eo true (fun k => pr (.aL) [dm] k) fun v28 =>
 gd eo true (fun k => pr (.cO) [v28] k) fun du =>
 gd eo true (fun k => pr (.aN .leq) [du, (vi 60)] k) fun v30 =>
 gd v21 false (fun k => pr (.pick) [eo, v30, (.bool false)] k) fun v31 =>
 gd bC true (fun k => pr (.pick) [v21, (.bool true), v31] k) fun eC =>
 pr (.pick) [bC, eC, (.bool false)] fun iI =>
 R iI
def Tt (w0 : World) (E R : Value → W) (x0 : Value) : W :=
 pr (.box 25) [x0] fun v1 =>
 pr (.fieldAddr 5) [v1] fun v2 =>
 pr (.aL) [v2] fun v3 =>
 pr (.cO) [v3] fun v4 =>
 pr (.aN .leq) [v4, (vi 40)] fun v5 =>
 gd v5 false (fun k => pr (.fieldAddr 5) [v1] k) fun v6 =>
 gd v5 false (fun k => pr (.aL) [v6] k) fun v7 =>
 gd v5 false (fun k => pr (.cO) [v7] k) fun v8 =>
 gd v5 false (fun k => pr (.aN .gtr) [v8, (vi 600)] k) fun v9 =>
 gd v5 false (fun k => k v9) fun v10 =>
 gd v10 true (fun k => pr (.fieldAddr 5) [v1] k) fun v11 =>
 gd v10 true (fun k => pr (.aL) [v11] k) fun v12 =>
 gd v10 true (fun k => pr (.cO) [v12] k) fun b9 =>
 gd v10 true (fun k => pr (.aN .leq) [b9, (vi 700)] k) fun bP =>
 gd v5 false (fun k => pr (.pick) [v10, bP, (.bool false)] k) fun cQ =>
 pr (.pick) [v5, (.bool true), cQ] fun bC =>
 Ko w0 E R v1 bC
theorem acd {w0 : World} {h : AH} {Q : CR → AH → Prop} (x0 : Value) (H : Tt w0 (fun v h => Q (.aP v) h) (fun v h => Q (.ret v) h) x0 h) : WF PP w0 Kp [x0] h Q :=
 dM bE e13 [] (by kernel_rfl) (Eq.mp (by kernel_rfl) H)
def Tu (w0 : World) (E R : Value → W) (x0 x1 x2 : Value) : W :=
 pr (.aN .leq) [x1, x0] fun v1 =>
 gd v1 true (fun k => k x0) fun v2 =>
 gd v1 true (fun k => k x2) fun v3 =>
 gd v1 true (fun k => pr (.aN .leq) [v2, v3] k) fun v4 =>
 pr (.pick) [v1, v4, (.bool false)] fun v5 =>
 R v5
theorem ace {w0 : World} {h : AH} {Q : CR → AH → Prop} (x0 x1 x2 : Value) (H : Tu w0 (fun v h => Q (.aP v) h) (fun v h => Q (.ret v) h) x0 x1 x2 h) : WF PP w0 qU [x0, x1, x2] h Q :=
 dM bE e58 [] (by kernel_rfl) (Eq.mp (by kernel_rfl) H)
def Kq (w0 : World) (E R : Value → W) (v1 : Value) : W :=
 pr (.build [(vi 0), (vi 0), (vi 0), (vi 0), (vi 0), (vi 0), (.bool false)] []) [] fun v2 =>
 pr (.store 7) [v1, v2] fun v3 =>
 ld (.bo 7) [v1] fun v4 =>
 R (.tuple ⟨[v4, (.bool false)]⟩)
def Aa (w0 : World) (E R : Value → W) (v1 x0 xy : Value) : W :=
 br xy (
 pr (.de [1, 1, 1]) [(vi 1), (vi 1), (vi 1)] fun iI =>
 pr (.de [1, 1]) [(vi 2), (vi 3)] fun fu =>
 pr (.build [(vi 0), (vi 0), (vi 0), (vi 0), (vi 0), (vi 0), (.bool false)] [(0,3), (3,1), (4,2)]) [iI, (vi 1), fu] fun eQ =>
 pr (.store 7) [v1, eQ] fun dW =>
 ld (.bo 7) [v1] fun v37 =>
 R (.tuple ⟨[v37, (.bool true)]⟩)) (
 pr (.aN .eql) [x0, (vi 17)] fun hY =>
 br hY (
 pr (.de [1, 1, 1]) [(vi 1), (vi 2), (vi 5)] fun eR =>
 pr (.de [1, 1]) [(vi 2), (vi 0)] fun v40 =>
 pr (.de [3, 1, 2, 1]) [eR, (vi 1), v40, (.bool true)] fun lH =>
 pr (.store 7) [v1, lH] fun jw =>
 ld (.bo 7) [v1] fun dq =>
 R (.tuple ⟨[dq, (.bool true)]⟩)) (
 pr (.aN .eql) [x0, (vi 18)] fun fU =>
 br fU (
 pr (.de [1, 1, 1]) [(vi 5), (vi 1), (vi 0)] fun lI =>
 pr (.de [1, 1]) [(vi 2), (vi 0)] fun v46 =>
 pr (.build [(vi 0), (vi 0), (vi 0), (vi 0), (vi 0), (vi 0), (.bool false)] [(0,3), (4,2)]) [lI, v46] fun kb =>
 pr (.store 7) [v1, kb] fun gw =>
 ld (.bo 7) [v1] fun v49 =>
 R (.tuple ⟨[v49, (.bool true)]⟩)) (
 pr (.aN .eql) [x0, (vi 19)] fun im =>
 br im (
 pr (.de [1, 1, 1]) [(vi 6), (vi 1), (vi 0)] fun v51 =>
 pr (.de [1, 1]) [(vi 2), (vi 0)] fun iq =>
 pr (.build [(vi 0), (vi 0), (vi 0), (vi 0), (vi 0), (vi 0), (.bool false)] [(0,3), (4,2)]) [v51, iq] fun v53 =>
 pr (.store 7) [v1, v53] fun pI =>
 ld (.bo 7) [v1] fun k9 =>
 R (.tuple ⟨[k9, (.bool true)]⟩)) (
 pr (.aN .eql) [x0, (vi 20)] fun me =>
 br me (
 pr (.de [1, 1, 1]) [(vi 7), (vi 2), (vi 8)] fun mR =>
 pr (.de [1, 1]) [(vi 2), (vi 0)] fun uK =>
 pr (.de [3, 1, 2, 1]) [mR, (vi 1), uK, (.bool true)] fun v59 =>
 pr (.store 7) [v1, v59] fun pM =>
 ld (.bo 7) [v1] fun mf =>
 R (.tuple ⟨[mf, (.bool true)]⟩)) (
 pr (.aN .eql) [x0, (vi 21)] fun qV =>
 br qV (
 pr (.de [1, 1, 1]) [(vi 1), (vi 9), (vi 4)] fun mg =>
 pr (.build [(vi 0), (vi 0), (vi 0), (vi 0), (vi 0), (vi 0), (.bool false)] [(0,3), (3,1), (6,1)]) [mg, (vi 1), (.bool true)] fun qW =>
 pr (.store 7) [v1, qW] fun nG =>
 ld (.bo 7) [v1] fun mQ =>
 R (.tuple ⟨[mQ, (.bool true)]⟩)) (
 pr (.aN .eql) [x0, (vi 22)] fun qQ =>
 br qQ (
 pr (.de [1, 1, 1]) [(vi 1), (vi 10), (vi 0)] fun la =>
 pr (.de [1, 1]) [(vi 1), (vi 0)] fun qR =>
 pr (.build [(vi 0), (vi 0), (vi 0), (vi 0), (vi 0), (vi 0), (.bool false)] [(0,3), (4,2), (6,1)]) [la, qR, (.bool true)] fun v70 =>
 pr (.store 7) [v1, v70] fun pL =>
 ld (.bo 7) [v1] fun v72 =>
 R (.tuple ⟨[v72, (.bool true)]⟩)) (
 pr (.aN .eql) [x0, (vi 23)] fun qS =>
 br qS (
 pr (.de [1, 1, 1]) [(vi 2), (vi 0), (vi 0)] fun qT =>
 pr (.de [1, 1]) [(vi 1), (vi 0)] fun v75 =>
 pr (.build [(vi 0), (vi 0), (vi 0), (vi 0), (vi 0), (vi 0), (.bool false)] [(0,3), (4,2), (6,1)]) [qT, v75, (.bool true)] fun v76 =>
 pr (.store 7) [v1, v76] fun Tv =>
 ld (.bo 7) [v1] fun Kr =>
 R (.tuple ⟨[Kr, (.bool true)]⟩)) (
 pr (.aN .eql) [x0, (vi 24)] fun Ks =>
 br Ks (
 pr (.de [1, 1, 1]) [(vi 11), (vi 0), (vi 0)] fun v80 =>
 pr (.build [(vi 0), (vi 0), (vi 0), (vi 0), (vi 0), (vi 0), (.bool false)] [(0,3)]) [v80] fun lJ =>
 pr (.store 7) [v1, lJ] fun Tw =>
 ld (.bo 7) [v1] fun Kt =>
 R (.tuple ⟨[Kt, (.bool true)]⟩)) (
 pr (.aN .eql) [x0, (vi 25)] fun Ku =>
 br Ku (
 pr (.de [1, 1, 1]) [(vi 1), (vi 11), (vi 0)] fun v85 =>
 pr (.de [1, 1]) [(vi 1), (vi 0)] fun pN =>
 pr (.build [(vi 0), (vi 0), (vi 0), (vi 0), (vi 0), (vi 0), (.bool false)] [(0,3), (4,2)]) [v85, pN] fun v87 =>
 pr (.store 7) [v1, v87] fun v88 =>
 ld (.bo 7) [v1] fun v89 =>
 R (.tuple ⟨[v89, (.bool true)]⟩)) (
 pr (.aN .eql) [x0, (vi 26)] fun v90 =>
 br v90 (
 pr (.de [1, 1, 1]) [(vi 12), (vi 0), (vi 0)] fun v91 =>
 pr (.build [(vi 0), (vi 0), (vi 0), (vi 0), (vi 0), (vi 0), (.bool false)] [(0,3), (6,1)]) [v91, (.bool true)] fun v92 =>
 pr (.store 7) [v1, v92] fun v93 =>
 ld (.bo 7) [v1] fun v94 =>
 R (.tuple ⟨[v94, (.bool true)]⟩)) (
 pr (.aN .eql) [x0, (vi 27)] fun v95 =>
 br v95 (
 pr (.build [(vi 0), (vi 0), (vi 0), (vi 0), (vi 0), (vi 0), (.bool false)] [(6,1)]) [(.bool true)] fun v96 =>
 pr (.store 7) [v1, v96] fun v97 =>
 ld (.bo 7) [v1] fun v98 =>
 R (.tuple ⟨[v98, (.bool true)]⟩)) (
 pr (.aN .eql) [x0, (vi 28)] fun v99 =>
 br v99 (
 pr (.de [1, 1, 1]) [(vi 2), (vi 0), (vi 0)] fun acf =>
 pr (.de [1, 1]) [(vi 1), (vi 0)] fun acg =>
 pr (.build [(vi 0), (vi 0), (vi 0), (vi 0), (vi 0), (vi 0), (.bool false)] [(0,3), (4,2)]) [acf, acg] fun ach =>
 pr (.store 7) [v1, ach] fun anL =>
 ld (.bo 7) [v1] fun aci =>
 R (.tuple ⟨[aci, (.bool true)]⟩)) (
 pr (.aN .eql) [x0, (vi 29)] fun v105 =>
 br v105 (
 pr (.de [1, 1, 1]) [(vi 1), (vi 0), (vi 0)] fun acj =>
 pr (.de [1, 1]) [(vi 1), (vi 0)] fun v107 =>
 pr (.build [(vi 0), (vi 0), (vi 0), (vi 0), (vi 0), (vi 0), (.bool false)] [(0,3), (4,2)]) [acj, v107] fun ack =>
 pr (.store 7) [v1, ack] fun v109 =>
 ld (.bo 7) [v1] fun acm =>
 R (.tuple ⟨[acm, (.bool true)]⟩)) (
 pr (.aN .eql) [x0, (vi 30)] fun acn =>
 br acn (
 pr (.de [1, 1, 1]) [(vi 1), (vi 0), (vi 0)] fun aco =>
 pr (.de [1, 1]) [(vi 1), (vi 0)] fun acp =>
 pr (.build [(vi 0), (vi 0), (vi 0), (vi 0), (vi 0), (vi 0), (.bool false)] [(0,3), (4,2), (6,1)]) [aco, acp, (.bool true)] fun acq =>
 pr (.store 7) [v1, acq] fun anM =>
 ld (.bo 7) [v1] fun acr =>
 R (.tuple ⟨[acr, (.bool true)]⟩)) (
 pr (.aN .eql) [x0, (vi 31)] fun v117 =>
 br v117 (
 pr (.build [(vi 0), (vi 0), (vi 0), (vi 0), (vi 0), (vi 0), (.bool false)] []) [] fun acs =>
 pr (.store 7) [v1, acs] fun anN =>
 ld (.bo 7) [v1] fun acu =>
 R (.tuple ⟨[acu, (.bool true)]⟩)) (
 pr (.aN .eql) [x0, (vi 32)] fun acv =>
 br acv (
 pr (.de [1, 1, 1]) [(vi 1), (vi 11), (vi 0)] fun acw =>
 pr (.de [1, 1]) [(vi 1), (vi 0)] fun acx =>
 pr (.build [(vi 0), (vi 0), (vi 0), (vi 0), (vi 0), (vi 0), (.bool false)] [(0,3), (4,2), (6,1)]) [acw, acx, (.bool true)] fun v124 =>
 pr (.store 7) [v1, v124] fun anO =>
 ld (.bo 7) [v1] fun acy =>
 R (.tuple ⟨[acy, (.bool true)]⟩)) (
 pr (.aN .eql) [x0, (vi 33)] fun v127 =>
 br v127 (
 pr (.de [1, 1, 1]) [(vi 1), (vi 13), (vi 0)] fun acz =>
 pr (.build [(vi 0), (vi 0), (vi 0), (vi 0), (vi 0), (vi 0), (.bool false)] [(0,3), (3,1)]) [acz, (vi 1)] fun acA =>
 pr (.store 7) [v1, acA] fun v130 =>
 ld (.bo 7) [v1] fun v131 =>
 R (.tuple ⟨[v131, (.bool true)]⟩)) (
 pr (.aN .eql) [x0, (vi 34)] fun acB =>
 br acB (
 pr (.de [1, 1, 1]) [(vi 13), (vi 1), (vi 0)] fun acC =>
 pr (.de [1, 1]) [(vi 2), (vi 0)] fun acD =>
 pr (.build [(vi 0), (vi 0), (vi 0), (vi 0), (vi 0), (vi 0), (.bool false)] [(0,3), (4,2)]) [acC, acD] fun acE =>
 pr (.store 7) [v1, acE] fun anP =>
 ld (.bo 7) [v1] fun acF =>
 R (.tuple ⟨[acF, (.bool true)]⟩)) (
 Kq w0 E R v1)))))))))))))))))))
def uL (w0 : World) (E R : Value → W) (v1 x0 xz : Value) : W :=
 br xz (
 pr (.de [1, 1, 1]) [(vi 1), (vi 1), (vi 1)] fun dm =>
 pr (.de [1, 1]) [(vi 2), (vi 3)] fun v28 =>
 pr (.de [3, 1, 2, 1]) [dm, (vi 1), v28, (.bool true)] fun du =>
 pr (.store 7) [v1, du] fun v30 =>
 ld (.bo 7) [v1] fun v31 =>
 R (.tuple ⟨[v31, (.bool true)]⟩)) (
 pr (.aN .eql) [x0, (vi 12)] fun v138 =>
 br v138 (
 Aa w0 E R v1 x0 v138) (
 pr (.aN .eql) [x0, (vi 13)] fun v139 =>
 br v139 (
 Aa w0 E R v1 x0 v139) (
 pr (.aN .eql) [x0, (vi 14)] fun acG =>
 Aa w0 E R v1 x0 acG)))
def xA (w0 : World) (E R : Value → W) (v1 x0 mS : Value) : W :=
 br mS (
 pr (.de [1, 1, 1]) [(vi 1), (vi 1), (vi 0)] fun v21 =>
 pr (.de [1, 1]) [(vi 2), (vi 0)] fun aZ =>
 pr (.build [(vi 0), (vi 0), (vi 0), (vi 0), (vi 0), (vi 0), (.bool false)] [(0,3), (3,1), (4,2)]) [v21, (vi 1), aZ] fun bZ =>
 pr (.store 7) [v1, bZ] fun v24 =>
 ld (.bo 7) [v1] fun ft =>
 R (.tuple ⟨[ft, (.bool true)]⟩)) (
 pr (.aN .eql) [x0, (vi 6)] fun v141 =>
 br v141 (
 uL w0 E R v1 x0 v141) (
 pr (.aN .eql) [x0, (vi 7)] fun Tx =>
 br Tx (
 uL w0 E R v1 x0 Tx) (
 pr (.aN .eql) [x0, (vi 8)] fun v143 =>
 br v143 (
 uL w0 E R v1 x0 v143) (
 pr (.aN .eql) [x0, (vi 9)] fun Ty =>
 br Ty (
 uL w0 E R v1 x0 Ty) (
 pr (.aN .eql) [x0, (vi 10)] fun v145 =>
 uL w0 E R v1 x0 v145)))))
def E7 (w0 : World) (E R : Value → W) (v1 x0 xB : Value) : W :=
 br xB (
 pr (.de [1, 1, 1]) [(vi 1), (vi 0), (vi 0)] fun bC =>
 pr (.build [(vi 0), (vi 0), (vi 0), (vi 0), (vi 0), (vi 0), (.bool false)] [(0,3), (3,1)]) [bC, (vi 1)] fun dA =>
 pr (.store 7) [v1, dA] fun cD =>
 ld (.bo 7) [v1] fun dB =>
 R (.tuple ⟨[dB, (.bool true)]⟩)) (
 pr (.aN .eql) [x0, (vi 4)] fun v146 =>
 br v146 (
 xA w0 E R v1 x0 v146) (
 pr (.aN .eql) [x0, (vi 11)] fun Tz =>
 br Tz (
 xA w0 E R v1 x0 Tz) (
 pr (.aN .eql) [x0, (vi 15)] fun v148 =>
 br v148 (
 xA w0 E R v1 x0 v148) (
 pr (.aN .eql) [x0, (vi 16)] fun acH =>
 xA w0 E R v1 x0 acH))))
def TA (w0 : World) (E R : Value → W) (x0 : Value) : W :=
 pr (.alloc 148 [(vi 0), (vi 0), (vi 0), (vi 0), (vi 0), (vi 0), (.bool false)]) [] fun v1 =>
 pr (.aN .eql) [x0, (vi 1)] fun v5 =>
 br v5 (
 pr (.de [1, 1, 1]) [(vi 1), (vi 3), (vi 0)] fun v6 =>
 pr (.build [(vi 0), (vi 0), (vi 0), (vi 0), (vi 0), (vi 0), (.bool false)] [(0,3), (3,1)]) [v6, (vi 1)] fun v7 =>
 pr (.store 7) [v1, v7] fun v8 =>
 ld (.bo 7) [v1] fun v9 =>
 R (.tuple ⟨[v9, (.bool true)]⟩)) (
 pr (.aN .eql) [x0, (vi 2)] fun v10 =>
 br v10 (
 pr (.de [1, 1, 1]) [(vi 1), (vi 4), (vi 0)] fun v11 =>
 pr (.build [(vi 0), (vi 0), (vi 0), (vi 0), (vi 0), (vi 0), (.bool false)] [(0,3), (3,1)]) [v11, (vi 1)] fun v12 =>
 pr (.store 7) [v1, v12] fun b9 =>
 ld (.bo 7) [v1] fun bP =>
 R (.tuple ⟨[bP, (.bool true)]⟩)) (
 pr (.aN .eql) [x0, (vi 3)] fun TB =>
 br TB (
 E7 w0 E R v1 x0 TB) (
 pr (.aN .eql) [x0, (vi 5)] fun acI =>
 E7 w0 E R v1 x0 acI)))
theorem acJ {w0 : World} {h : AH} {Q : CR → AH → Prop} (x0 : Value) (H : TA w0 (fun v h => Q (.aP v) h) (fun v h => Q (.ret v) h) x0 h) : WF PP w0 xC [x0] h Q :=
 dM bE e88 [] (by kernel_rfl) (Eq.mp (by kernel_rfl) H)
def Kv (w0 : World) (E R : Value → W)  : W :=
 R (.tuple ⟨[(vi 0), (.bool false)]⟩)
def Kw (w0 : World) (E R : Value → W) (v1 v8 : Value) : W :=
 br v8 (
 pr (.fieldAddr 2) [v1] fun v9 =>
 pr (.aL) [v9] fun v10 =>
 R (.tuple ⟨[v10, (.bool true)]⟩)) (
 Kv w0 E R )
def Kx (w0 : World) (E R : Value → W) (v1 : Value) : W :=
 pr (.fieldAddr 0) [v1] fun v2 =>
 pr (.aL) [v2] fun v3 =>
 pr (.aN .eql) [v3, (vi 25)] fun v4 =>
 gd v4 false (fun k => pr (.fieldAddr 0) [v1] k) fun v5 =>
 gd v4 false (fun k => pr (.aL) [v5] k) fun v6 =>
 gd v4 false (fun k => pr (.aN .eql) [v6, (vi 32)] k) fun v7 =>
 pr (.pick) [v4, (.bool true), v7] fun v8 =>
 Kw w0 E R v1 v8
def TC (w0 : World) (E R : Value → W) (x0 : Value) : W :=
 pr (.box 67) [x0] fun v1 =>
 pr (.fieldAddr 0) [v1] fun v11 =>
 pr (.aL) [v11] fun v12 =>
 pr (.aN .eql) [v12, (vi 24)] fun b9 =>
 br b9 (
 pr (.fieldAddr 1) [v1] fun bP =>
 pr (.aL) [bP] fun cQ =>
 R (.tuple ⟨[cQ, (.bool true)]⟩)) (
 Kx w0 E R v1)
theorem acK {w0 : World} {h : AH} {Q : CR → AH → Prop} (x0 : Value) (H : TC w0 (fun v h => Q (.aP v) h) (fun v h => Q (.ret v) h) x0 h) : WF PP w0 Ab [x0] h Q :=
 dM bE e57 [] (by kernel_rfl) (Eq.mp (by kernel_rfl) H)
def Ky (w0 : World) (E R : Value → W)  : W :=
 R (.bool true)
def Kz (w0 : World) (E R : Value → W) (y6 : Value) (k5 : Value → W) : W :=
 pr (.aN .add) [y6, (vi 1)] fun v7 =>
 k5 v7
def KA (w0 : World) (E R : Value → W) (y6 : Value) (k5 : Value → W) (fu : Value) : W :=
 br fu (
 R (.bool false)) (
 Kz w0 E R y6 k5)
def KB (w0 : World) (E R : Value → W) (v12 v4 y6 : Value) (k5 : Value → W) (dm : Value) : W :=
 gd dm false (fun k => pr (.fieldAddr 2) [v12] k) fun v28 =>
 gd dm false (fun k => pr (.aL) [v28] k) fun du =>
 gd dm false (fun k => k v4) fun v30 =>
 gd dm false (fun k => pr (.aN .sub) [v30, (vi 1)] k) fun v31 =>
 gd dm false (fun k => cl PP w0 qU [du, (vi 0), v31] E k) fun eC =>
 gd dm false (fun k => pr (.dQ) [eC] k) fun iI =>
 pr (.pick) [dm, (.bool true), iI] fun fu =>
 KA w0 E R y6 k5 fu
def KC (w0 : World) (E R : Value → W) (v12 v4 y6 : Value) (k5 : Value → W) (aZ : Value) : W :=
 gd aZ false (fun k => pr (.fieldAddr 1) [v12] k) fun bZ =>
 gd aZ false (fun k => pr (.aL) [bZ] k) fun v24 =>
 gd aZ false (fun k => k v4) fun ft =>
 gd aZ false (fun k => pr (.aN .gtr) [v24, ft] k) fun eo =>
 pr (.pick) [aZ, (.bool true), eo] fun dm =>
 KB w0 E R v12 v4 y6 k5 dm
def KD (w0 : World) (E R : Value → W) (v1 y6 v4 : Value) (k5 : Value → W) : W :=
 pr (.fieldAddr 6) [v1] fun v8 =>
 pr (.aL) [v8] fun v9 =>
 pr (.cV 3) [v9, y6] fun v10 =>
 pr (.bo 3) [v10] fun v11 =>
 pr (.alloc 79 [(vi 0), (vi 0), (vi 0)]) [] fun v12 =>
 pr (.store 3) [v12, v11] fun b9 =>
 pr (.fieldAddr 0) [v12] fun bP =>
 pr (.aL) [bP] fun cQ =>
 pr (.aN .lss) [cQ, (vi 0)] fun bC =>
 gd bC false (fun k => pr (.fieldAddr 0) [v12] k) fun dA =>
 gd bC false (fun k => pr (.aL) [dA] k) fun cD =>
 gd bC false (fun k => pr (.fieldAddr 1) [v12] k) fun dB =>
 gd bC false (fun k => pr (.aL) [dB] k) fun v20 =>
 gd bC false (fun k => pr (.aN .geq) [cD, v20] k) fun v21 =>
 pr (.pick) [bC, (.bool true), v21] fun aZ =>
 KC w0 E R v12 v4 y6 k5 aZ
def E8 (w0 : World) (E R : Value → W) (v1 v4 : Value) (k5 : Value → W) (y6 : Value) : W :=
 pr (.fieldAddr 6) [v1] fun eQ =>
 pr (.aL) [eQ] fun dW =>
 pr (.cO) [dW] fun v37 =>
 pr (.aN .lss) [y6, v37] fun hY =>
 br hY (
 KD w0 E R v1 y6 v4 k5) (
 Ky w0 E R )
def KE (w0 : World) (E R : Value → W) (v1 v4 : Value) : W :=
 LP (α := Value) (fun k a => E8 w0 E R v1 v4 k a) ((vi 0))
def KF (w0 : World) (E R : Value → W) (dZ : Value) (jR : Value → W) : W :=
 pr (.aN .add) [dZ, (vi 1)] fun lH =>
 jR lH
def KG (w0 : World) (E R : Value → W) (dZ : Value) (jR : Value → W) (la : Value) : W :=
 br la (
 R (.bool false)) (
 KF w0 E R dZ jR)
def KH (w0 : World) (E R : Value → W) (v1 dZ v4 : Value) (jR : Value → W) : W :=
 pr (.fieldAddr 5) [v1] fun jw =>
 pr (.aL) [jw] fun dq =>
 pr (.cV 4) [dq, dZ] fun fU =>
 pr (.fieldAddr 0) [fU] fun lI =>
 pr (.aL) [lI] fun v46 =>
 cl PP w0 xC [v46] E fun kb =>
 pr (.extract 0) [kb] fun gw =>
 pr (.extract 1) [kb] fun v49 =>
 pr (.alloc 148 [(vi 0), (vi 0), (vi 0), (vi 0), (vi 0), (vi 0), (.bool false)]) [] fun im =>
 pr (.store 7) [im, gw] fun v51 =>
 pr (.fieldAddr 5) [v1] fun iq =>
 pr (.aL) [iq] fun v53 =>
 pr (.cV 4) [v53, dZ] fun pI =>
 pr (.bo 4) [pI] fun k9 =>
 cl PP w0 Ab [k9] E fun me =>
 pr (.extract 0) [me] fun mR =>
 pr (.extract 1) [me] fun uK =>
 pr (.dQ) [v49] fun v59 =>
 gd v59 false (fun k => k uK) fun pM =>
 gd v59 false (fun k => k pM) fun mf =>
 gd mf true (fun k => k mR) fun qV =>
 gd mf true (fun k => k v4) fun mg =>
 gd mf true (fun k => pr (.aN .sub) [mg, (vi 1)] k) fun qW =>
 gd mf true (fun k => cl PP w0 qU [qV, (vi 0), qW] E k) fun nG =>
 gd mf true (fun k => pr (.dQ) [nG] k) fun mQ =>
 gd v59 false (fun k => pr (.pick) [mf, mQ, (.bool false)] k) fun qQ =>
 pr (.pick) [v59, (.bool true), qQ] fun la =>
 KG w0 E R dZ jR la
def E9 (w0 : World) (E R : Value → W) (v4 v1 : Value) (jR : Value → W) (dZ : Value) : W :=
 pr (.aN .lss) [dZ, v4] fun qR =>
 br qR (
 KH w0 E R v1 dZ v4 jR) (
 KE w0 E R v1 v4)
def KI (w0 : World) (E R : Value → W) (v4 v1 : Value) : W :=
 LP (α := Value) (fun k a => E9 w0 E R v4 v1 k a) ((vi 0))
def KJ (w0 : World) (E R : Value → W) (v4 v1 pN : Value) : W :=
 br pN (
 R (.bool false)) (
 KI w0 E R v4 v1)
def KK (w0 : World) (E R : Value → W) (v1 v4 lJ : Value) : W :=
 gd lJ false (fun k => pr (.fieldAddr 4) [v1] k) fun Tw =>
 gd lJ false (fun k => pr (.aL) [Tw] k) fun Kt =>
 gd lJ false (fun k => cl PP w0 qU [Kt, (vi 0), (vi 200)] E k) fun Ku =>
 gd lJ false (fun k => pr (.dQ) [Ku] k) fun v85 =>
 pr (.pick) [lJ, (.bool true), v85] fun pN =>
 KJ w0 E R v4 v1 pN
def KL (w0 : World) (E R : Value → W) (v1 v4 v76 : Value) : W :=
 gd v76 false (fun k => pr (.fieldAddr 3) [v1] k) fun Tv =>
 gd v76 false (fun k => pr (.aL) [Tv] k) fun Kr =>
 gd v76 false (fun k => cl PP w0 qU [Kr, (vi 0), (vi 200)] E k) fun Ks =>
 gd v76 false (fun k => pr (.dQ) [Ks] k) fun v80 =>
 pr (.pick) [v76, (.bool true), v80] fun lJ =>
 KK w0 E R v1 v4 lJ
def TD (w0 : World) (E R : Value → W) (x0 : Value) : W :=
 pr (.box 25) [x0] fun v1 =>
 pr (.fieldAddr 5) [v1] fun v2 =>
 pr (.aL) [v2] fun v3 =>
 pr (.cO) [v3] fun v4 =>
 cl PP w0 qU [v4, (vi 1), (vi 600)] E fun v70 =>
 pr (.dQ) [v70] fun pL =>
 gd pL false (fun k => pr (.fieldAddr 6) [v1] k) fun v72 =>
 gd pL false (fun k => pr (.aL) [v72] k) fun qS =>
 gd pL false (fun k => pr (.cO) [qS] k) fun qT =>
 gd pL false (fun k => pr (.aN .gtr) [qT, (vi 40)] k) fun v75 =>
 pr (.pick) [pL, (.bool true), v75] fun v76 =>
 KL w0 E R v1 v4 v76
theorem acL {w0 : World} {h : AH} {Q : CR → AH → Prop} (x0 : Value) (H : TD w0 (fun v h => Q (.aP v) h) (fun v h => Q (.ret v) h) x0 h) : WF PP w0 xD [x0] h Q :=
 dM bE e55 [[s4], [s9]] (by kernel_rfl) (Eq.mp (by kernel_rfl) H)
def KM (w0 : World) (E R : Value → W) (v1 v12 : Value) : W :=
 gd v12 false (fun k => pr (.fieldAddr 0) [v1] k) fun b9 =>
 gd v12 false (fun k => pr (.aL) [b9] k) fun bP =>
 gd v12 false (fun k => pr (.aN .eql) [bP, (vi 28)] k) fun cQ =>
 pr (.pick) [v12, (.bool true), cQ] fun bC =>
 R bC
def KN (w0 : World) (E R : Value → W) (v1 v8 : Value) : W :=
 gd v8 false (fun k => pr (.fieldAddr 0) [v1] k) fun v9 =>
 gd v8 false (fun k => pr (.aL) [v9] k) fun v10 =>
 gd v8 false (fun k => pr (.aN .eql) [v10, (vi 27)] k) fun v11 =>
 pr (.pick) [v8, (.bool true), v11] fun v12 =>
 KM w0 E R v1 v12
def TE (w0 : World) (E R : Value → W) (x0 : Value) : W :=
 pr (.box 67) [x0] fun v1 =>
 pr (.fieldAddr 0) [v1] fun v2 =>
 pr (.aL) [v2] fun v3 =>
 pr (.aN .eql) [v3, (vi 24)] fun v4 =>
 gd v4 false (fun k => pr (.fieldAddr 0) [v1] k) fun v5 =>
 gd v4 false (fun k => pr (.aL) [v5] k) fun v6 =>
 gd v4 false (fun k => pr (.aN .eql) [v6, (vi 26)] k) fun v7 =>
 pr (.pick) [v4, (.bool true), v7] fun v8 =>
 KN w0 E R v1 v8
theorem acM {w0 : World} {h : AH} {Q : CR → AH → Prop} (x0 : Value) (H : TE w0 (fun v h => Q (.aP v) h) (fun v h => Q (.ret v) h) x0 h) : WF PP w0 Fa [x0] h Q :=
 dM bE e92 [] (by kernel_rfl) (Eq.mp (by kernel_rfl) H)
def KO (w0 : World) (E R : Value → W) (x1 x0 : Value) : W :=
 pr (.buildSlice 3 1 [(vi 0)] [(0,1)]) [x1] fun v1 =>
 pr (.append 3 1 [(vi 0)]) [x0, v1] fun v2 =>
 R v2
def KP (w0 : World) (E R : Value → W) (y4 : Value) (k3 : Value → W) : W :=
 pr (.aN .add) [y4, (vi 1)] fun v5 =>
 k3 v5
def KQ (w0 : World) (E R : Value → W) (x0 y4 x1 : Value) (k3 : Value → W) : W :=
 pr (.cV 1) [x0, y4] fun v6 =>
 pr (.aL) [v6] fun v7 =>
 pr (.aN .eql) [v7, x1] fun v8 =>
 br v8 (
 R x0) (
 KP w0 E R y4 k3)
def Fb (w0 : World) (E R : Value → W) (x0 x1 : Value) (k3 : Value → W) (y4 : Value) : W :=
 pr (.cO) [x0] fun v9 =>
 pr (.aN .lss) [y4, v9] fun v10 =>
 br v10 (
 KQ w0 E R x0 y4 x1 k3) (
 KO w0 E R x1 x0)
def TF (w0 : World) (E R : Value → W) (x0 x1 : Value) : W :=
 LP (α := Value) (fun k a => Fb w0 E R x0 x1 k a) ((vi 0))
theorem acN {w0 : World} {h : AH} {Q : CR → AH → Prop} (x0 x1 : Value) (H : TF w0 (fun v h => Q (.aP v) h) (fun v h => Q (.ret v) h) x0 x1 h) : WF PP w0 Fc [x0, x1] h Q :=
 dM bE e63 [[s5]] (by kernel_rfl) (Eq.mp (by kernel_rfl) H)
def Fe (w0 : World) (E R : Value → W) (aV : Value) : W :=
 R aV
def Ff (w0 : World) (E R : Value → W) (v6 y8 : Value) : W :=
 pr (.bo 4) [v6] fun v9 =>
 cl PP w0 Ab [v9] E fun v10 =>
 pr (.extract 0) [v10] fun v11 =>
 pr (.extract 1) [v10] fun v12 =>
 br v12 (
 cl PP w0 Fc [y8, v11] E fun bP =>
 Fe w0 E R  bP) (
 Fe w0 E R  y8)
def KR (w0 : World) (E R : Value → W) (x1 v6 v24 : Value) : W :=
 br v24 (
 pr (.aN .add) [x1, (vi 1)] fun ft =>
 pr (.buildSlice 3 1 [(vi 0)] [(0,1)]) [ft] fun eo =>
 pr (.append 3 1 [(vi 0)]) [cH, eo] fun dm =>
 Ff w0 E R v6 dm) (
 Ff w0 E R v6 cH)
def TG (w0 : World) (E R : Value → W) (x0 x1 : Value) : W :=
 pr (.box 25) [x0] fun v1 =>
 pr (.fieldAddr 5) [v1] fun v2 =>
 pr (.aL) [v2] fun v3 =>
 pr (.cV 4) [v3, x1] fun v4 =>
 pr (.bo 4) [v4] fun v5 =>
 pr (.alloc 67 [(vi 0), (vi 0), (vi 0), (vi 0)]) [] fun v6 =>
 pr (.store 4) [v6, v5] fun v7 =>
 pr (.bo 4) [v6] fun cQ =>
 cl PP w0 Fa [cQ] E fun bC =>
 pr (.dQ) [bC] fun dA =>
 gd dA true (fun k => k x1) fun cD =>
 gd dA true (fun k => pr (.aN .add) [cD, (vi 1)] k) fun dB =>
 gd dA true (fun k => pr (.fieldAddr 5) [v1] k) fun v20 =>
 gd dA true (fun k => pr (.aL) [v20] k) fun v21 =>
 gd dA true (fun k => pr (.cO) [v21] k) fun aZ =>
 gd dA true (fun k => pr (.aN .lss) [dB, aZ] k) fun bZ =>
 pr (.pick) [dA, bZ, (.bool false)] fun v24 =>
 KR w0 E R x1 v6 v24
theorem acO {w0 : World} {h : AH} {Q : CR → AH → Prop} (x0 x1 : Value) (H : TG w0 (fun v h => Q (.aP v) h) (fun v h => Q (.ret v) h) x0 x1 h) : WF PP w0 KT [x0, x1] h Q :=
 dM bE e56 [] (by kernel_rfl) (Eq.mp (by kernel_rfl) H)
def KU (w0 : World) (E R : Value → W)  : W :=
 R (vi (-1))
def KW (w0 : World) (E R : Value → W) (y3 : Value) (k2 : Value → W) : W :=
 pr (.aN .add) [y3, (vi 1)] fun v4 =>
 k2 v4
def KX (w0 : World) (E R : Value → W) (y3 : Value) (k2 : Value → W) (dB : Value) : W :=
 br dB (
 R y3) (
 KW w0 E R y3 k2)
def KY (w0 : World) (E R : Value → W) (v1 y3 x1 : Value) (k2 : Value → W) : W :=
 pr (.fieldAddr 6) [v1] fun v5 =>
 pr (.aL) [v5] fun v6 =>
 pr (.cV 3) [v6, y3] fun v7 =>
 pr (.fieldAddr 0) [v7] fun v8 =>
 pr (.aL) [v8] fun v9 =>
 pr (.aN .leq) [v9, x1] fun v10 =>
 gd v10 true (fun k => k x1) fun v11 =>
 gd v10 true (fun k => pr (.fieldAddr 6) [v1] k) fun v12 =>
 gd v10 true (fun k => pr (.aL) [v12] k) fun b9 =>
 gd v10 true (fun k => k y3) fun bP =>
 gd v10 true (fun k => pr (.cV 3) [b9, bP] k) fun cQ =>
 gd v10 true (fun k => pr (.fieldAddr 1) [cQ] k) fun bC =>
 gd v10 true (fun k => pr (.aL) [bC] k) fun dA =>
 gd v10 true (fun k => pr (.aN .lss) [v11, dA] k) fun cD =>
 pr (.pick) [v10, cD, (.bool false)] fun dB =>
 KX w0 E R y3 k2 dB
def Fg (w0 : World) (E R : Value → W) (v1 x1 : Value) (k2 : Value → W) (y3 : Value) : W :=
 pr (.fieldAddr 6) [v1] fun v20 =>
 pr (.aL) [v20] fun v21 =>
 pr (.cO) [v21] fun aZ =>
 pr (.aN .lss) [y3, aZ] fun bZ =>
 br bZ (
 KY w0 E R v1 y3 x1 k2) (
 KU w0 E R )
def TH (w0 : World) (E R : Value → W) (x0 x1 : Value) : W :=
 pr (.box 25) [x0] fun v1 =>
 LP (α := Value) (fun k a => Fg w0 E R v1 x1 k a) ((vi 0))
theorem acP {w0 : World} {h : AH} {Q : CR → AH → Prop} (x0 x1 : Value) (H : TH w0 (fun v h => Q (.aP v) h) (fun v h => Q (.ret v) h) x0 x1 h) : WF PP w0 Ac [x0, x1] h Q :=
 dM bE e59 [[s5]] (by kernel_rfl) (Eq.mp (by kernel_rfl) H)
def TI (w0 : World) (E R : Value → W) (x0 : Value) : W :=
 pr (.box 67) [x0] fun v1 =>
 pr (.fieldAddr 0) [v1] fun v2 =>
 pr (.aL) [v2] fun v3 =>
 cl PP w0 xC [v3] E fun v4 =>
 pr (.extract 0) [v4] fun v5 =>
 pr (.extract 1) [v4] fun v6 =>
 pr (.alloc 148 [(vi 0), (vi 0), (vi 0), (vi 0), (vi 0), (vi 0), (.bool false)]) [] fun v7 =>
 pr (.store 7) [v7, v5] fun v8 =>
 pr (.fieldAddr 6) [v7] fun v9 =>
 pr (.aL) [v9] fun v10 =>
 R v10
theorem acQ {w0 : World} {h : AH} {Q : CR → AH → Prop} (x0 : Value) (H : TI w0 (fun v h => Q (.aP v) h) (fun v h => Q (.ret v) h) x0 h) : WF PP w0 Fh [x0] h Q :=
 dM bE e43 [] (by kernel_rfl) (Eq.mp (by kernel_rfl) H)
def KZ (w0 : World) (E R : Value → W) (v1 : Value) : W :=
 pr (.fieldAddr 3) [v1] fun v2 =>
 pr (.aL) [v2] fun v3 =>
 R v3
def K3 (w0 : World) (E R : Value → W) (x1 v1 : Value) : W :=
 pr (.aN .eql) [x1, (vi 2)] fun v4 =>
 br v4 (
 pr (.fieldAddr 2) [v1] fun v5 =>
 pr (.aL) [v5] fun v6 =>
 R v6) (
 KZ w0 E R v1)
def TJ (w0 : World) (E R : Value → W) (x0 x1 : Value) : W :=
 pr (.box 67) [x0] fun v1 =>
 pr (.aN .eql) [x1, (vi 1)] fun v7 =>
 br v7 (
 pr (.fieldAddr 1) [v1] fun v8 =>
 pr (.aL) [v8] fun v9 =>
 R v9) (
 K3 w0 E R x1 v1)
theorem acR {w0 : World} {h : AH} {Q : CR → AH → Prop} (x0 x1 : Value) (H : TJ w0 (fun v h => Q (.aP v) h) (fun v h => Q (.ret v) h) x0 x1 h) : WF PP w0 Ad [x0, x1] h Q :=
 dM bE e89 [] (by kernel_rfl) (Eq.mp (by kernel_rfl) H)
def K4 (w0 : World) (E R : Value → W) (y9 : Value) : W :=
 R y9
def Fi (w0 : World) (E R : Value → W) (aT : Value) (cm : Value → Value → W) (aV : Value) : W :=
 pr (.aN .add) [aT, (vi 1)] fun bP =>
 cm aV bP
def K5 (w0 : World) (E R : Value → W) (v1 v7 aT bz : Value) (cm : Value → Value → W) (eo : Value) : W :=
 br eo (
 pr (.bo 4) [v1] fun dm =>
 pr (.fieldAddr 4) [v7] fun v28 =>
 pr (.xE 2 1) [v28, aT] fun du =>
 pr (.aL) [du] fun v30 =>
 cl PP w0 Ad [dm, v30] E fun v31 =>
 ck (.move) [bz] bz (
 pr (.buildSlice 3 1 [(vi 0)] [(0,1)]) [v31] fun eC =>
 pr (.append 3 1 [(vi 0)]) [bz, eC] fun iI =>
 Fi w0 E R aT cm iI)) (
 Fi w0 E R aT cm bz)
def K6 (w0 : World) (E R : Value → W) (v7 aT v1 bz : Value) (cm : Value → Value → W) : W :=
 pr (.fieldAddr 4) [v7] fun cQ =>
 pr (.xE 2 1) [cQ, aT] fun bC =>
 pr (.aL) [bC] fun dA =>
 pr (.aN .gtr) [dA, (vi 0)] fun cD =>
 gd cD true (fun k => pr (.bo 4) [v1] k) fun dB =>
 gd cD true (fun k => k aT) fun v20 =>
 gd cD true (fun k => pr (.fieldAddr 4) [v7] k) fun v21 =>
 gd cD true (fun k => pr (.xE 2 1) [v21, v20] k) fun aZ =>
 gd cD true (fun k => pr (.aL) [aZ] k) fun bZ =>
 gd cD true (fun k => cl PP w0 Ad [dB, bZ] E k) fun v24 =>
 gd cD true (fun k => pr (.aN .neq) [v24, (vi (-1))] k) fun ft =>
 pr (.pick) [cD, ft, (.bool false)] fun eo =>
 K5 w0 E R v1 v7 aT bz cm eo
def Fj (w0 : World) (E R : Value → W) (v7 v1 : Value) (cm : Value → Value → W) (bz aT : Value) : W :=
 pr (.aN .lss) [aT, (vi 2)] fun fu =>
 br fu (
 K6 w0 E R v7 aT v1 bz cm) (
 K4 w0 E R  bz)
def TK (w0 : World) (E R : Value → W) (x0 : Value) : W :=
 pr (.box 67) [x0] fun v1 =>
 pr (.fieldAddr 0) [v1] fun v2 =>
 pr (.aL) [v2] fun v3 =>
 cl PP w0 xC [v3] E fun v4 =>
 pr (.extract 0) [v4] fun v5 =>
 pr (.extract 1) [v4] fun v6 =>
 pr (.alloc 148 [(vi 0), (vi 0), (vi 0), (vi 0), (vi 0), (vi 0), (.bool false)]) [] fun v7 =>
 pr (.store 7) [v7, v5] fun v8 =>
 LP (α := Value × Value) (fun k a => Fj w0 E R v7 v1 (fun b0 b1 => k (b0, b1)) a.1 a.2) (cH, (vi 0))
theorem acS {w0 : World} {h : AH} {Q : CR → AH → Prop} (x0 : Value) (H : TK w0 (fun v h => Q (.aP v) h) (fun v h => Q (.ret v) h) x0 h) : WF PP w0 K7 [x0] h Q :=
 dM bE e31 [[s5, s6]] (by kernel_rfl) (Eq.mp (by kernel_rfl) H)
def K8 (w0 : World) (E R : Value → W) (v1 v7 : Value) : W :=
 pr (.bo 4) [v1] fun v9 =>
 pr (.fieldAddr 3) [v7] fun v10 =>
 pr (.aL) [v10] fun v11 =>
 cl PP w0 Ad [v9, v11] E fun v12 =>
 R v12
def TL (w0 : World) (E R : Value → W) (x0 : Value) : W :=
 pr (.box 67) [x0] fun v1 =>
 pr (.fieldAddr 0) [v1] fun v2 =>
 pr (.aL) [v2] fun v3 =>
 cl PP w0 xC [v3] E fun v4 =>
 pr (.extract 0) [v4] fun v5 =>
 pr (.extract 1) [v4] fun v6 =>
 pr (.alloc 148 [(vi 0), (vi 0), (vi 0), (vi 0), (vi 0), (vi 0), (.bool false)]) [] fun v7 =>
 pr (.store 7) [v7, v5] fun v8 =>
 pr (.fieldAddr 3) [v7] fun b9 =>
 pr (.aL) [b9] fun bP =>
 pr (.aN .eql) [bP, (vi 0)] fun cQ =>
 br cQ (
 R (vi (-1))) (
 K8 w0 E R v1 v7)
theorem acT {w0 : World} {h : AH} {Q : CR → AH → Prop} (x0 : Value) (H : TL w0 (fun v h => Q (.aP v) h) (fun v h => Q (.ret v) h) x0 h) : WF PP w0 K9 [x0] h Q :=
 dM bE e39 [] (by kernel_rfl) (Eq.mp (by kernel_rfl) H)
def Fk (w0 : World) (E R : Value → W) (v8 v3 : Value) (d16 : List Nat) : W :=
 pr (.aL) [v8] fun dA =>
 pr (.store 1) [v3, dA] fun cD =>
 jb (d16) (
 ld (.aL) [v3] fun dB =>
 R dB)
def Fm (w0 : World) (E R : Value → W) (v8 db v11 : Value) (oC : LO) (oD : Nat) : W :=
 pr (.aL) [v8] fun gw =>
 pr (.cV 1) [gw, db] fun v49 =>
 pr (.aL) [v49] fun im =>
 pr (.dQ) [im] fun v51 =>
 br v51 (
 pr (.aL) [v8] fun iq =>
 pr (.cV 1) [iq, db] fun v53 =>
 pr (.store 1) [v53, (.bool true)] fun pI =>
 pr (.aL) [v11] fun k9 =>
 pr (.buildSlice 3 1 [(vi 0)] [(0,1)]) [db] fun me =>
 pr (.append 3 1 [(vi 0)]) [k9, me] fun mR =>
 pr (.store 1) [v11, mR] fun uK =>
 jx oC oD .ready none true R) (
 jx oC oD .ready none true R)
def Fo (w0 : World) (E R : Value → W) (v2 du v3 v8 v11 : Value) (oC : LO) (oD : Nat) (db mT : Value) : W :=
 qN oC oD (
 mO oC oD (
 pr (.aL) [v2] fun v59 =>
 pr (.aL) [du] fun pM =>
 dy PP w0 [v59, pM, db, mT] ox fun mf =>
 pr (.dQ) [mf] fun qV =>
 br qV (
 pr (.store 1) [v3, cH] fun mg =>
 jx oC oD .done (some .ret) false R) (
 Fm w0 E R v8 db v11 oC oD)))
def Fp (w0 : World) (E R : Value → W) (v11 v1 v2 v3 v8 : Value) (cW : List Nat → W) (d22 : List Nat) : W :=
 pr (.aL) [v11] fun bZ =>
 pr (.aL) [v11] fun v24 =>
 pr (.cO) [v24] fun ft =>
 pr (.aN .sub) [ft, (vi 1)] fun eo =>
 pr (.cV 1) [bZ, eo] fun dm =>
 pr (.aL) [dm] fun v28 =>
 pr (.alloc 3 [(vi 0)]) [] fun du =>
 pr (.store 1) [du, v28] fun v30 =>
 pr (.aL) [v11] fun v31 =>
 pr (.aL) [v11] fun eC =>
 pr (.cO) [eC] fun iI =>
 pr (.aN .sub) [iI, (vi 1)] fun fu =>
 pr (.slice 1 false true false) [v31, fu] fun eQ =>
 pr (.store 1) [v11, eQ] fun dW =>
 pr (.bo 7) [v1] fun v37 =>
 pr (.aL) [du] fun hY =>
 cl PP w0 zV [v37, hY] (cE (d22) E) fun eR =>
 xw PP w0 eR (fun oC oD TM R => zX (fun db mT => Fo w0 ox R v2 du v3 v8 v11 oC oD db mT) TM) (fun mU => cE (mU :: d22) E) (fun mU z43 => sE z43 (
 cW (mU :: d22)) (
 jb (mU :: d22) (
 ld (.aL) [v3] fun kb =>
 R kb)) [])
def Ae (w0 : World) (E R : Value → W) (v11 v1 v2 v3 v8 : Value) (cW : List Nat → W) (d21 : List Nat) : W :=
 pr (.aL) [v11] fun qW =>
 pr (.cO) [qW] fun nG =>
 pr (.aN .gtr) [nG, (vi 0)] fun mQ =>
 br mQ (
 Fp w0 E R v11 v1 v2 v3 v8 cW (d21)) (
 Fk w0 E R v8 v3 (d21))
def TN (w0 : World) (E R : Value → W) (x0 x1 : Value) : W :=
 pr (.box 25) [x0] fun v1 =>
 pr (.box 100) [x1] fun v2 =>
 pr (.alloc 39 [cH]) [] fun v3 =>
 pr (.fieldAddr 5) [v1] fun v4 =>
 pr (.aL) [v4] fun v5 =>
 pr (.cO) [v5] fun v6 =>
 pr (.mkSlice 4 1 [(.bool false)]) [v6, v6] fun v7 =>
 pr (.alloc 39 [cH]) [] fun v8 =>
 pr (.store 1) [v8, v7] fun v9 =>
 pr (.buildSlice 3 1 [(vi 0)] [(0,1)]) [(vi 0)] fun v10 =>
 pr (.alloc 28 [cH]) [] fun v11 =>
 pr (.store 1) [v11, v10] fun v12 =>
 pr (.aL) [v8] fun b9 =>
 pr (.cV 1) [b9, (vi 0)] fun bP =>
 pr (.store 1) [bP, (.bool true)] fun cQ =>
 LP (α := (Unit) × List Nat) (fun k a => Ae w0 E R v11 v1 v2 v3 v8 (fun  q => k ((), q)) a.2) ((), ([] : List Nat))
theorem acU {w0 : World} {h : AH} {Q : CR → AH → Prop} (x0 : Value) (x1 : Value) (H : TN w0 (fun v h => Q (.aP v) h) (fun v h => Q (.ret v) h) x0 x1 h) : WF PP w0 La [x0, x1] h Q := by
 let E : Value → W := fun v h => Q (.aP v) h
 let R : Value → W := fun v h => Q (.ret v) h
 refine ET bE e78 ?_
 refine eY ?_
 refine dX ?_
 refine bh (vs := [x0]) (by kernel_rfl) H fun v1 h H => ?_
 refine bh (vs := [x1]) (by kernel_rfl) H fun v2 h H => ?_
 refine bh (vs := []) (by kernel_rfl) H fun v3 h H => ?_
 refine dY ?_
 refine eZ ?_
 refine eY ?_
 refine dX ?_
 refine bh (vs := [v1]) (by kernel_rfl) H fun v4 h H => ?_
 refine bh (vs := [v4]) (by kernel_rfl) H fun v5 h H => ?_
 refine bh (vs := [v5]) (by kernel_rfl) H fun v6 h H => ?_
 refine bh (vs := [v6, v6]) (by kernel_rfl) H fun v7 h H => ?_
 refine bh (vs := []) (by kernel_rfl) H fun v8 h H => ?_
 refine bh (vs := [v8, v7]) (by kernel_rfl) H fun v9 h H => ?_
 refine dY ?_
 refine eZ ?_
 refine eY ?_
 refine dX ?_
 refine bh (vs := [(vi 0)]) (by kernel_rfl) H fun v10 h H => ?_
 refine bh (vs := []) (by kernel_rfl) H fun v11 h H => ?_
 refine bh (vs := [v11, v10]) (by kernel_rfl) H fun v12 h H => ?_
 refine dY ?_
 refine eZ ?_
 refine eY ?_
 refine dX ?_
 refine bh (vs := [v8]) (by kernel_rfl) H fun b9 h H => ?_
 refine bh (vs := [b9, (vi 0)]) (by kernel_rfl) H fun bP h H => ?_
 refine bh (vs := [bP, (.bool true)]) (by kernel_rfl) H fun cQ h H => ?_
 refine dY ?_
 refine eZ ?_
 refine qO (rs := ([] : List Nat)) (α := Unit) [(s4, v3), (s5, v8)] (fun a => []) (fun σ => ()) (fun a q => Fk w0 E R v8 v3  q) (fun σ => trivial) (fun a1 d16 σ h H => ?_) ?_
 · refine eY ?_
   refine dX ?_
   refine bh (vs := [v8]) (by kernel_rfl) H fun dA h H => ?_
   refine bh (vs := [v3, dA]) (by kernel_rfl) H fun cD h H => ?_
   refine dY ?_
   refine eZ ?_
   exact xx (P := PP) (w0 := w0) Af.results Q (d16) (by kernel_rfl) (Eq.mp (by kernel_rfl) H)
 · refine pJ ?_
   refine Tr bE (rs := ([] : List Nat)) (α := Unit) [(s2, v1), (s3, v2), (s4, v3), (s5, v8), (s6, v11)] (fun a => []) (fun σ => ()) (fun k a => Ae w0 E R v11 v1 v2 v3 v8 (fun  q => k ((), q)) a.2) (fun σ => trivial) (fun k_2 a2 d21 σ h H => ?_) (x := ()) (by kernel_rfl) (Eq.mp (by kernel_rfl) (And.intro (Eq.refl (v1 : Value)) (And.intro (Eq.refl (v2 : Value)) (And.intro (Eq.refl (v3 : Value)) (And.intro (Eq.refl (v8 : Value)) (And.intro (Eq.refl (v11 : Value)) trivial)))))) H
   refine qO (rs := d21) (α := Unit) [(s2, v1), (s3, v2), (s4, v3), (s5, v8), (s6, v11)] (fun a => []) (fun σ => ()) (fun a q => Fp w0 E R v11 v1 v2 v3 v8 (fun  q => k_2 ((), q))  q) (fun σ => trivial) (fun a3 d22 σ h H => ?_) ?_
   · refine pJ ?_
     refine eY ?_
     refine dX ?_
     refine bh (vs := [v11]) (by kernel_rfl) H fun bZ h H => ?_
     refine bh (vs := [v11]) (by kernel_rfl) H fun v24 h H => ?_
     refine bh (vs := [v24]) (by kernel_rfl) H fun ft h H => ?_
     refine bh (vs := [ft, (vi 1)]) (by kernel_rfl) H fun eo h H => ?_
     refine bh (vs := [bZ, eo]) (by kernel_rfl) H fun dm h H => ?_
     refine bh (vs := [dm]) (by kernel_rfl) H fun v28 h H => ?_
     refine bh (vs := []) (by kernel_rfl) H fun du h H => ?_
     refine bh (vs := [du, v28]) (by kernel_rfl) H fun v30 h H => ?_
     refine dY ?_
     refine eZ ?_
     refine eY ?_
     refine dX ?_
     refine bh (vs := [v11]) (by kernel_rfl) H fun v31 h H => ?_
     refine bh (vs := [v11]) (by kernel_rfl) H fun eC h H => ?_
     refine bh (vs := [eC]) (by kernel_rfl) H fun iI h H => ?_
     refine bh (vs := [iI, (vi 1)]) (by kernel_rfl) H fun fu h H => ?_
     refine bh (vs := [v31, fu]) (by kernel_rfl) H fun eQ h H => ?_
     refine bh (vs := [v11, eQ]) (by kernel_rfl) H fun dW h H => ?_
     refine dY ?_
     refine eZ ?_
     refine eY ?_
     refine dX ?_
     refine bh (vs := [v1]) (by kernel_rfl) H fun v37 h H => ?_
     refine bh (vs := [du]) (by kernel_rfl) H fun hY h H => ?_
     refine sF (vs := [v37, hY]) (by kernel_rfl) H (fun _ _ H => oz (P := PP) (w0 := w0) Af.results Q (d22) (by kernel_rfl) H) fun eR h H => ?_
     refine dY ?_
     refine eZ ?_
     refine pJ ?_
     refine J5 bE (rs := d22) _ _ _ _ _ (fv := eR) (by kernel_rfl) H (fun mU _ _ H => oz (P := PP) (w0 := w0) Af.results Q (mU :: d22) (by kernel_rfl) H) (fun mU h H => ?_) (fun mU h H => ?_) (fun mU => trivial) (fun oC Tk oD TM R h H => ?_)
     · refine nF ?_
       refine nF ?_
       exact Exists.intro (mU :: d22) (Eq.mp (by kernel_rfl) (And.intro (Eq.refl (gK (mU :: d22))) (And.intro (And.intro (Eq.refl (v1 : Value)) (And.intro (Eq.refl (v2 : Value)) (And.intro (Eq.refl (v3 : Value)) (And.intro (Eq.refl (v8 : Value)) (And.intro (Eq.refl (v11 : Value)) trivial))))) H)))
     · exact xx (P := PP) (w0 := w0) Af.results Q (mU :: d22) (by kernel_rfl) (Eq.mp (by kernel_rfl) H)
     · obtain ⟨db, mT, rfl, H⟩ := J6 H
       let E : Value → W := ox
       have H2 := J7 H
       refine ⟨H2.1, rfl, ?_⟩
       have H := H2.2
       refine eY ?_
       refine dX ?_
       refine fw (v := db) (by kernel_rfl) ?_
       refine dY ?_
       refine eZ ?_
       refine dX ?_
       refine fw (v := mT) (by kernel_rfl) ?_
       refine dY ?_
       refine J8 H (fun h H => ?_)
       refine pJ ?_
       refine acV (α := Unit) [(s5, v8), (s6, v11), (s8, db)] (fun a => []) (fun σ => ()) (fun a => Fm w0 E R v8 db v11 oC oD ) (fun σ => trivial) (fun a4 σ h H => ?_) ?_
       · refine eY ?_
         refine dX ?_
         refine bh (vs := [v8]) (by kernel_rfl) H fun gw h H => ?_
         refine fw (v := db) (by kernel_rfl) ?_
         refine bh (vs := [gw, db]) (by kernel_rfl) H fun v49 h H => ?_
         refine bh (vs := [v49]) (by kernel_rfl) H fun im h H => ?_
         refine bh (vs := [im]) (by kernel_rfl) H fun v51 h H => ?_
         refine dY ?_
         refine eZ ?_
         refine pK (v := v51) (by kernel_rfl) H (fun H => ?_) (fun H => ?_)
         · refine eY ?_
           refine dX ?_
           refine bh (vs := [v8]) (by kernel_rfl) H fun iq h H => ?_
           refine fw (v := db) (by kernel_rfl) ?_
           refine bh (vs := [iq, db]) (by kernel_rfl) H fun v53 h H => ?_
           refine bh (vs := [v53, (.bool true)]) (by kernel_rfl) H fun pI h H => ?_
           refine dY ?_
           refine eZ ?_
           refine dX ?_
           refine bh (vs := [v11]) (by kernel_rfl) H fun k9 h H => ?_
           refine fw (v := db) (by kernel_rfl) ?_
           refine bh (vs := [db]) (by kernel_rfl) H fun me h H => ?_
           refine bh (vs := [k9, me]) (by kernel_rfl) H fun mR h H => ?_
           refine bh (vs := [v11, mR]) (by kernel_rfl) H fun uK h H => ?_
           refine dY ?_
           refine nF ?_
           exact Eq.mp (by kernel_rfl) (And.intro (Eq.refl ([] : List fa)) H)
         · refine qP ?_
           refine nF ?_
           exact Eq.mp (by kernel_rfl) (And.intro (Eq.refl ([] : List fa)) H)
       · refine eY ?_
         refine dX ?_
         refine bh (vs := [v2]) (by kernel_rfl) H fun v59 h H => ?_
         refine bh (vs := [du]) (by kernel_rfl) H fun pM h H => ?_
         refine fw (v := db) (by kernel_rfl) ?_
         refine fw (v := mT) (by kernel_rfl) ?_
         refine acW (vs := [v59, pM, db, mT]) (by kernel_rfl) H (fun _ _ H => False.elim H) fun mf h H => ?_
         refine bh (vs := [mf]) (by kernel_rfl) H fun qV h H => ?_
         refine dY ?_
         refine eZ ?_
         refine pK (v := qV) (by kernel_rfl) H (fun H => ?_) (fun H => ?_)
         · refine eY ?_
           refine dX ?_
           refine bh (vs := [v3, cH]) (by kernel_rfl) H fun mg h H => ?_
           refine dY ?_
           refine eZ ?_
           exact Eq.mp (by kernel_rfl) (And.intro (Eq.refl ([] : List fa)) H)
         · refine qP ?_
           exact Eq.mp (by kernel_rfl) (And.intro (Eq.refl (⟨[], .off⟩ : DS)) (And.intro (And.intro (Eq.refl (v8 : Value)) (And.intro (Eq.refl (v11 : Value)) (And.intro (Eq.refl (db : Value)) trivial))) H))
   · refine eY ?_
     refine dX ?_
     refine bh (vs := [v11]) (by kernel_rfl) H fun qW h H => ?_
     refine bh (vs := [qW]) (by kernel_rfl) H fun nG h H => ?_
     refine bh (vs := [nG, (vi 0)]) (by kernel_rfl) H fun mQ h H => ?_
     refine dY ?_
     refine eZ ?_
     refine pK (v := mQ) (by kernel_rfl) H (fun H => ?_) (fun H => ?_)
     · refine qP ?_
       exact Exists.intro (d21) (Eq.mp (by kernel_rfl) (And.intro (Eq.refl (gK (d21))) (And.intro (And.intro (Eq.refl (v1 : Value)) (And.intro (Eq.refl (v2 : Value)) (And.intro (Eq.refl (v3 : Value)) (And.intro (Eq.refl (v8 : Value)) (And.intro (Eq.refl (v11 : Value)) trivial))))) H)))
     · exact Exists.intro (d21) (Eq.mp (by kernel_rfl) (And.intro (Eq.refl (gK (d21))) (And.intro (And.intro (Eq.refl (v3 : Value)) (And.intro (Eq.refl (v8 : Value)) trivial)) H)))
def TO (w0 : World) (E R : Value → W) (x0 x1 x2 : Value) : W :=
 R (.bool true)
theorem acX {w0 : World} {h : AH} {Q : CR → AH → Prop} (x0 x1 x2 : Value) (H : TO w0 (fun v h => Q (.aP v) h) (fun v h => Q (.ret v) h) x0 x1 x2 h) : WF PP w0 Fq [x0, x1, x2] h Q :=
 dM bE e79 [] (by kernel_rfl) (Eq.mp (by kernel_rfl) H)
def Lb (w0 : World) (E R : Value → W) (v1 : Value) : W :=
 pr (.bo 7) [v1] fun v2 =>
 cl PP w0 La [v2, (fc Fq)] E fun v3 =>
 R v3
def TP (w0 : World) (E R : Value → W) (x0 : Value) : W :=
 pr (.box 25) [x0] fun v1 =>
 pr (.bo 7) [v1] fun v4 =>
 cl PP w0 xv [v4] E fun v5 =>
 pr (.dQ) [v5] fun v6 =>
 br v6 (
 R cH) (
 Lb w0 E R v1)
theorem acY {w0 : World} {h : AH} {Q : CR → AH → Prop} (x0 : Value) (H : TP w0 (fun v h => Q (.aP v) h) (fun v h => Q (.ret v) h) x0 h) : WF PP w0 Lc [x0] h Q :=
 dM bE e28 [] (by kernel_rfl) (Eq.mp (by kernel_rfl) H)
def Fs (w0 : World) (E R : Value → W) (y6 : Value) : W :=
 R y6
def Ld (w0 : World) (E R : Value → W) (v1 v5 v3 bP : Value) : W :=
 br bP (
 pr (.fieldAddr 6) [v1] fun cQ =>
 pr (.aL) [cQ] fun bC =>
 pr (.cV 3) [bC, v5] fun dA =>
 pr (.fieldAddr 2) [dA] fun cD =>
 pr (.aL) [cD] fun dB =>
 cl PP w0 Fc [v3, dB] E fun v20 =>
 Fs w0 E R  v20) (
 Fs w0 E R  v3)
def TQ (w0 : World) (E R : Value → W) (x0 x1 : Value) : W :=
 pr (.box 25) [x0] fun v1 =>
 pr (.bo 7) [v1] fun v2 =>
 cl PP w0 KT [v2, x1] E fun v3 =>
 pr (.bo 7) [v1] fun v4 =>
 cl PP w0 Ac [v4, x1] E fun v5 =>
 pr (.fieldAddr 5) [v1] fun v7 =>
 pr (.aL) [v7] fun v8 =>
 pr (.cV 4) [v8, x1] fun v9 =>
 pr (.bo 4) [v9] fun v10 =>
 cl PP w0 Fh [v10] E fun v11 =>
 gd v11 true (fun k => k v5) fun v12 =>
 gd v11 true (fun k => pr (.aN .geq) [v12, (vi 0)] k) fun b9 =>
 pr (.pick) [v11, b9, (.bool false)] fun bP =>
 Ld w0 E R v1 v5 v3 bP
theorem acZ {w0 : World} {h : AH} {Q : CR → AH → Prop} (x0 x1 : Value) (H : TQ w0 (fun v h => Q (.aP v) h) (fun v h => Q (.ret v) h) x0 x1 h) : WF PP w0 Ft [x0, x1] h Q :=
 dM bE e91 [] (by kernel_rfl) (Eq.mp (by kernel_rfl) H)
def Le (w0 : World) (E R : Value → W) (v1 x1 : Value) : W :=
 pr (.bo 7) [v1] fun v2 =>
 cl PP w0 Ft [v2, x1] E fun v3 =>
 R v3
def Lf (w0 : World) (E R : Value → W) (v1 x1 bP : Value) : W :=
 br bP (
 R cH) (
 Le w0 E R v1 x1)
def TS (w0 : World) (E R : Value → W) (x0 x1 : Value) : W :=
 pr (.box 25) [x0] fun v1 =>
 pr (.bo 7) [v1] fun v4 =>
 cl PP w0 xD [v4] E fun v5 =>
 pr (.dQ) [v5] fun v6 =>
 gd v6 false (fun k => k x1) fun v7 =>
 gd v6 false (fun k => pr (.fieldAddr 5) [v1] k) fun v8 =>
 gd v6 false (fun k => pr (.aL) [v8] k) fun v9 =>
 gd v6 false (fun k => pr (.cO) [v9] k) fun v10 =>
 gd v6 false (fun k => pr (.aN .sub) [v10, (vi 1)] k) fun v11 =>
 gd v6 false (fun k => cl PP w0 qU [v7, (vi 0), v11] E k) fun v12 =>
 gd v6 false (fun k => pr (.dQ) [v12] k) fun b9 =>
 pr (.pick) [v6, (.bool true), b9] fun bP =>
 Lf w0 E R v1 x1 bP
theorem ac0 {w0 : World} {h : AH} {Q : CR → AH → Prop} (x0 x1 : Value) (H : TS w0 (fun v h => Q (.aP v) h) (fun v h => Q (.ret v) h) x0 x1 h) : WF PP w0 Lg [x0, x1] h Q :=
 dM bE e33 [] (by kernel_rfl) (Eq.mp (by kernel_rfl) H)
def Lh (w0 : World) (E R : Value → W) (v5 : Value) : W :=
 R v5
def Fu (w0 : World) (E R : Value → W) (aT : Value) (cm : Value → Value → W) (aV : Value) : W :=
 pr (.aN .add) [aT, (vi 1)] fun bP =>
 cm aV bP
def Fv (w0 : World) (E R : Value → W) (eT : Value) (lK : Value → Value → W) (mS : Value) : W :=
 pr (.aN .add) [eT, (vi 1)] fun v21 =>
 lK mS v21
def Li (w0 : World) (E R : Value → W) (bC eT v5 : Value) (lK : Value → Value → W) (iS : Value) : W :=
 pr (.cV 1) [bC, eT] fun aZ =>
 pr (.aL) [aZ] fun bZ =>
 pr (.cV 1) [v5, bZ] fun v24 =>
 pr (.aL) [v24] fun ft =>
 pr (.dQ) [ft] fun eo =>
 br eo (
 pr (.cV 1) [bC, eT] fun dm =>
 pr (.aL) [dm] fun v28 =>
 pr (.cV 1) [v5, v28] fun du =>
 pr (.store 1) [du, (.bool true)] fun v30 =>
 Fv w0 E R eT lK (.bool true)) (
 Fv w0 E R eT lK iS)
def Fw (w0 : World) (E R : Value → W) (bC v5 aT : Value) (cm lK : Value → Value → W) (iS eT : Value) : W :=
 pr (.cO) [bC] fun v31 =>
 pr (.aN .lss) [eT, v31] fun eC =>
 br eC (
 Li w0 E R bC eT v5 lK iS) (
 Fu w0 E R aT cm iS)
def Lj (w0 : World) (E R : Value → W) (v1 aT v5 : Value) (cm : Value → Value → W) (bz : Value) : W :=
 pr (.bo 7) [v1] fun cQ =>
 cl PP w0 Ft [cQ, aT] E fun bC =>
 LP (α := Value × Value) (fun k a => Fw w0 E R bC v5 aT cm (fun b0 b1 => k (b0, b1)) a.1 a.2) (bz, (vi 0))
def Lk (w0 : World) (E R : Value → W) (v5 aT : Value) (cm : Value → Value → W) (bz v1 : Value) : W :=
 pr (.cV 1) [v5, aT] fun iI =>
 pr (.aL) [iI] fun fu =>
 pr (.dQ) [fu] fun eQ =>
 br eQ (
 Fu w0 E R aT cm bz) (
 Lj w0 E R v1 aT v5 cm bz)
def Fx (w0 : World) (E R : Value → W) (v5 v1 : Value) (k8 : Value → W) (cm : Value → Value → W) (bz aT : Value) : W :=
 pr (.cO) [v5] fun dW =>
 pr (.aN .lss) [aT, dW] fun v37 =>
 br v37 (
 Lk w0 E R v5 aT cm bz v1) (
 k8 bz)
def Ll (w0 : World) (E R : Value → W) (v5 v1 : Value) (k8 : Value → W) : W :=
 LP (α := Value × Value) (fun k a => Fx w0 E R v5 v1 k8 (fun b0 b1 => k (b0, b1)) a.1 a.2) ((.bool false), (vi 0))
def Fy (w0 : World) (E R : Value → W) (v5 v1 : Value) (k8 : Value → W) (y9 : Value) : W :=
 br y9 (
 Ll w0 E R v5 v1 k8) (
 Lh w0 E R v5)
def Lm (w0 : World) (E R : Value → W) (v1 : Value) : W :=
 pr (.fieldAddr 5) [v1] fun v2 =>
 pr (.aL) [v2] fun v3 =>
 pr (.cO) [v3] fun v4 =>
 pr (.mkSlice 4 1 [(.bool false)]) [v4, v4] fun v5 =>
 pr (.cV 1) [v5, (vi 0)] fun v6 =>
 pr (.store 1) [v6, (.bool true)] fun v7 =>
 LP (α := Value) (fun k a => Fy w0 E R v5 v1 k a) ((.bool true))
def TT (w0 : World) (E R : Value → W) (x0 : Value) : W :=
 pr (.box 25) [x0] fun v1 =>
 pr (.bo 7) [v1] fun hY =>
 cl PP w0 xD [hY] E fun eR =>
 pr (.dQ) [eR] fun v40 =>
 br v40 (
 R cH) (
 Lm w0 E R v1)
theorem ac1 {w0 : World} {h : AH} {Q : CR → AH → Prop} (x0 : Value) (H : TT w0 (fun v h => Q (.aP v) h) (fun v h => Q (.ret v) h) x0 h) : WF PP w0 Ln [x0] h Q :=
 dM bE e35 [[s4], [s4, s5], [s4, s7]] (by kernel_rfl) (Eq.mp (by kernel_rfl) H)
def Lo (w0 : World) (E R : Value → W)  : W :=
 R (.bool true)
def Lp (w0 : World) (E R : Value → W) (y2 : Value) (k1 : Value → W) : W :=
 pr (.aN .add) [y2, (vi 1)] fun v3 =>
 k1 v3
def Lq (w0 : World) (E R : Value → W) (x0 y2 x1 : Value) (k1 : Value → W) : W :=
 pr (.cV 1) [x0, y2] fun v4 =>
 pr (.aL) [v4] fun v5 =>
 pr (.cV 1) [x1, y2] fun v6 =>
 pr (.aL) [v6] fun v7 =>
 pr (.Ag true) [v5, v7] fun v8 =>
 br v8 (
 R (.bool false)) (
 Lp w0 E R y2 k1)
def Fz (w0 : World) (E R : Value → W) (x0 x1 : Value) (k1 : Value → W) (y2 : Value) : W :=
 pr (.cO) [x0] fun v9 =>
 pr (.aN .lss) [y2, v9] fun v10 =>
 br v10 (
 Lq w0 E R x0 y2 x1 k1) (
 Lo w0 E R )
def Lr (w0 : World) (E R : Value → W) (x0 x1 : Value) : W :=
 LP (α := Value) (fun k a => Fz w0 E R x0 x1 k a) ((vi 0))
def TU (w0 : World) (E R : Value → W) (x0 x1 : Value) : W :=
 pr (.cO) [x0] fun v11 =>
 pr (.cO) [x1] fun v12 =>
 pr (.aN .neq) [v11, v12] fun b9 =>
 br b9 (
 R (.bool false)) (
 Lr w0 E R x0 x1)
theorem ac2 {w0 : World} {h : AH} {Q : CR → AH → Prop} (x0 x1 : Value) (H : TU w0 (fun v h => Q (.aP v) h) (fun v h => Q (.ret v) h) x0 x1 h) : WF PP w0 Ls [x0, x1] h Q :=
 dM bE e34 [[s5]] (by kernel_rfl) (Eq.mp (by kernel_rfl) H)
def Lt (w0 : World) (E R : Value → W) (y9 : Value) : W :=
 R y9
def FA (w0 : World) (E R : Value → W) (aT : Value) (cm : Value → Value → W) (aV : Value) : W :=
 pr (.aN .add) [aT, (vi 1)] fun bP =>
 cm aV bP
def Lu (w0 : World) (E R : Value → W) (v6 aT bz : Value) (cm : Value → Value → W) : W :=
 pr (.cV 1) [v6, aT] fun cQ =>
 pr (.aL) [cQ] fun bC =>
 br bC (
 pr (.buildSlice 3 1 [(vi 0)] [(0,1)]) [aT] fun dA =>
 pr (.append 3 1 [(vi 0)]) [bz, dA] fun cD =>
 FA w0 E R aT cm cD) (
 FA w0 E R aT cm bz)
def FB (w0 : World) (E R : Value → W) (v4 v6 : Value) (cm : Value → Value → W) (bz aT : Value) : W :=
 pr (.aN .lss) [aT, v4] fun dB =>
 br dB (
 Lu w0 E R v6 aT bz cm) (
 Lt w0 E R  bz)
def Lv (w0 : World) (E R : Value → W) (v4 v6 : Value) : W :=
 LP (α := Value × Value) (fun k a => FB w0 E R v4 v6 (fun b0 b1 => k (b0, b1)) a.1 a.2) (cH, (vi 0))
def FC (w0 : World) (E R : Value → W) (bD : Value) (cW : Value → W) : W :=
 pr (.aN .add) [bD, (vi 1)] fun aZ =>
 cW aZ
def Lw (w0 : World) (E R : Value → W) (bD v6 : Value) (cW : Value → W) (iq : Value) : W :=
 br iq (
 pr (.aN .add) [bD, (vi 1)] fun v53 =>
 pr (.cV 1) [v6, v53] fun pI =>
 pr (.store 1) [pI, (.bool true)] fun k9 =>
 FC w0 E R bD cW) (
 FC w0 E R bD cW)
def Lx (w0 : World) (E R : Value → W) (v1 bD v6 : Value) (cW : Value → W) (fU : Value) : W :=
 gd fU false (fun k => pr (.fieldAddr 5) [v1] k) fun lI =>
 gd fU false (fun k => pr (.aL) [lI] k) fun v46 =>
 gd fU false (fun k => k bD) fun kb =>
 gd fU false (fun k => pr (.cV 4) [v46, kb] k) fun gw =>
 gd fU false (fun k => pr (.fieldAddr 0) [gw] k) fun v49 =>
 gd fU false (fun k => pr (.aL) [v49] k) fun im =>
 gd fU false (fun k => pr (.aN .eql) [im, (vi 32)] k) fun v51 =>
 pr (.pick) [fU, (.bool true), v51] fun iq =>
 Lw w0 E R bD v6 cW iq
def FD (w0 : World) (E R : Value → W) (v1 bD v6 : Value) (cW : Value → W) : W :=
 pr (.fieldAddr 5) [v1] fun eC =>
 pr (.aL) [eC] fun iI =>
 pr (.cV 4) [iI, bD] fun fu =>
 pr (.bo 4) [fu] fun eQ =>
 cl PP w0 Fa [eQ] E fun dW =>
 gd dW false (fun k => pr (.fieldAddr 5) [v1] k) fun v37 =>
 gd dW false (fun k => pr (.aL) [v37] k) fun hY =>
 gd dW false (fun k => k bD) fun eR =>
 gd dW false (fun k => pr (.cV 4) [hY, eR] k) fun v40 =>
 gd dW false (fun k => pr (.fieldAddr 0) [v40] k) fun lH =>
 gd dW false (fun k => pr (.aL) [lH] k) fun jw =>
 gd dW false (fun k => pr (.aN .eql) [jw, (vi 25)] k) fun dq =>
 pr (.pick) [dW, (.bool true), dq] fun fU =>
 Lx w0 E R v1 bD v6 cW fU
def Ly (w0 : World) (E R : Value → W) (v1 v31 v6 bD : Value) (cW : Value → W) (mg : Value) : W :=
 br mg (
 pr (.fieldAddr 6) [v1] fun qW =>
 pr (.aL) [qW] fun nG =>
 pr (.cV 3) [nG, v31] fun mQ =>
 pr (.fieldAddr 2) [mQ] fun qQ =>
 pr (.aL) [qQ] fun la =>
 pr (.cV 1) [v6, la] fun qR =>
 pr (.store 1) [qR, (.bool true)] fun v70 =>
 FD w0 E R v1 bD v6 cW) (
 FD w0 E R v1 bD v6 cW)
def FE (w0 : World) (E R : Value → W) (v1 bD v6 : Value) (cW : Value → W) : W :=
 pr (.bo 7) [v1] fun v30 =>
 cl PP w0 Ac [v30, bD] E fun v31 =>
 pr (.fieldAddr 5) [v1] fun me =>
 pr (.aL) [me] fun mR =>
 pr (.cV 4) [mR, bD] fun uK =>
 pr (.bo 4) [uK] fun v59 =>
 cl PP w0 Fh [v59] E fun pM =>
 gd pM true (fun k => k v31) fun mf =>
 gd pM true (fun k => pr (.aN .geq) [mf, (vi 0)] k) fun qV =>
 pr (.pick) [pM, qV, (.bool false)] fun mg =>
 Ly w0 E R v1 v31 v6 bD cW mg
def Lz (w0 : World) (E R : Value → W) (v1 bD v6 : Value) (cW : Value → W) : W :=
 pr (.fieldAddr 5) [v1] fun bZ =>
 pr (.aL) [bZ] fun v24 =>
 pr (.cV 4) [v24, bD] fun ft =>
 pr (.bo 4) [ft] fun eo =>
 cl PP w0 Ab [eo] E fun dm =>
 pr (.extract 0) [dm] fun v28 =>
 pr (.extract 1) [dm] fun du =>
 br du (
 pr (.cV 1) [v6, v28] fun pL =>
 pr (.store 1) [pL, (.bool true)] fun v72 =>
 FE w0 E R v1 bD v6 cW) (
 FE w0 E R v1 bD v6 cW)
def FF (w0 : World) (E R : Value → W) (v4 v1 v6 : Value) (cW : Value → W) (bD : Value) : W :=
 pr (.aN .lss) [bD, v4] fun qS =>
 br qS (
 Lz w0 E R v1 bD v6 cW) (
 Lv w0 E R v4 v6)
def LA (w0 : World) (E R : Value → W) (v1 : Value) : W :=
 pr (.fieldAddr 5) [v1] fun v2 =>
 pr (.aL) [v2] fun v3 =>
 pr (.cO) [v3] fun v4 =>
 pr (.aN .add) [v4, (vi 1)] fun v5 =>
 pr (.mkSlice 4 1 [(.bool false)]) [v5, v5] fun v6 =>
 pr (.cV 1) [v6, (vi 0)] fun v7 =>
 pr (.store 1) [v7, (.bool true)] fun v8 =>
 LP (α := Value) (fun k a => FF w0 E R v4 v1 v6 k a) ((vi 0))
def TV (w0 : World) (E R : Value → W) (x0 : Value) : W :=
 pr (.box 25) [x0] fun v1 =>
 pr (.bo 7) [v1] fun qT =>
 cl PP w0 xD [qT] E fun v75 =>
 pr (.dQ) [v75] fun v76 =>
 br v76 (
 R cH) (
 LA w0 E R v1)
theorem ac3 {w0 : World} {h : AH} {Q : CR → AH → Prop} (x0 : Value) (H : TV w0 (fun v h => Q (.aP v) h) (fun v h => Q (.ret v) h) x0 h) : WF PP w0 LB [x0] h Q :=
 dM bE e37 [[s5], [s9, lb]] (by kernel_rfl) (Eq.mp (by kernel_rfl) H)
def LC (w0 : World) (E R : Value → W) (v1 x1 : Value) : W :=
 pr (.bo 7) [v1] fun v2 =>
 cl PP w0 EH [v2, x1] E fun v3 =>
 R v3
def LD (w0 : World) (E R : Value → W) (v1 x1 bP : Value) : W :=
 br bP (
 R (vi (-1))) (
 LC w0 E R v1 x1)
def TW (w0 : World) (E R : Value → W) (x0 x1 : Value) : W :=
 pr (.box 25) [x0] fun v1 =>
 pr (.bo 7) [v1] fun v4 =>
 cl PP w0 xv [v4] E fun v5 =>
 pr (.dQ) [v5] fun v6 =>
 gd v6 false (fun k => k x1) fun v7 =>
 gd v6 false (fun k => pr (.fieldAddr 5) [v1] k) fun v8 =>
 gd v6 false (fun k => pr (.aL) [v8] k) fun v9 =>
 gd v6 false (fun k => pr (.cO) [v9] k) fun v10 =>
 gd v6 false (fun k => pr (.aN .sub) [v10, (vi 1)] k) fun v11 =>
 gd v6 false (fun k => cl PP w0 qK [v7, (vi 0), v11] E k) fun v12 =>
 gd v6 false (fun k => pr (.dQ) [v12] k) fun b9 =>
 pr (.pick) [v6, (.bool true), b9] fun bP =>
 LD w0 E R v1 x1 bP
theorem ac4 {w0 : World} {h : AH} {Q : CR → AH → Prop} (x0 x1 : Value) (H : TW w0 (fun v h => Q (.aP v) h) (fun v h => Q (.ret v) h) x0 x1 h) : WF PP w0 LF [x0, x1] h Q :=
 dM bE e40 [] (by kernel_rfl) (Eq.mp (by kernel_rfl) H)
def LG (w0 : World) (E R : Value → W) (v1 x1 : Value) : W :=
 pr (.bo 7) [v1] fun v2 =>
 cl PP w0 Ac [v2, x1] E fun v3 =>
 R v3
def LH (w0 : World) (E R : Value → W) (v1 x1 bP : Value) : W :=
 br bP (
 R (vi (-1))) (
 LG w0 E R v1 x1)
def TX (w0 : World) (E R : Value → W) (x0 x1 : Value) : W :=
 pr (.box 25) [x0] fun v1 =>
 pr (.bo 7) [v1] fun v4 =>
 cl PP w0 xD [v4] E fun v5 =>
 pr (.dQ) [v5] fun v6 =>
 gd v6 false (fun k => k x1) fun v7 =>
 gd v6 false (fun k => pr (.fieldAddr 5) [v1] k) fun v8 =>
 gd v6 false (fun k => pr (.aL) [v8] k) fun v9 =>
 gd v6 false (fun k => pr (.cO) [v9] k) fun v10 =>
 gd v6 false (fun k => pr (.aN .sub) [v10, (vi 1)] k) fun v11 =>
 gd v6 false (fun k => cl PP w0 qU [v7, (vi 0), v11] E k) fun v12 =>
 gd v6 false (fun k => pr (.dQ) [v12] k) fun b9 =>
 pr (.pick) [v6, (.bool true), b9] fun bP =>
 LH w0 E R v1 x1 bP
theorem ac5 {w0 : World} {h : AH} {Q : CR → AH → Prop} (x0 x1 : Value) (H : TX w0 (fun v h => Q (.aP v) h) (fun v h => Q (.ret v) h) x0 x1 h) : WF PP w0 LI [x0, x1] h Q :=
 dM bE e41 [] (by kernel_rfl) (Eq.mp (by kernel_rfl) H)
def LJ (w0 : World) (E R : Value → W) (v1 x2 dW : Value) : W :=
 gd dW true (fun k => pr (.bo 7) [v1] k) fun v37 =>
 gd dW true (fun k => k x2) fun hY =>
 gd dW true (fun k => pr (.bo 7) [v1] k) fun eR =>
 gd dW true (fun k => k x2) fun v40 =>
 gd dW true (fun k => cl PP w0 LF [v37, hY] E k) fun lH =>
 gk dW true (fun k => ck (.move) [x2] v40 k) (
 gk dW true (fun k => ck (.bo 7) [v1] eR k) (
 gd dW true (fun k => cl PP w0 LI [eR, v40] E k) fun jw =>
 gd dW true (fun k => pr (.aN .eql) [lH, jw] k) fun dq =>
 pr (.pick) [dW, dq, (.bool false)] fun fU =>
 R fU))
def LK (w0 : World) (E R : Value → W) (v2 v1 x2 v30 : Value) : W :=
 gd v30 true (fun k => pr (.bo 4) [v2] k) fun v31 =>
 gd v30 true (fun k => pr (.bo 4) [v2] k) fun eC =>
 gd v30 true (fun k => cl PP w0 Kn [v31] E k) fun iI =>
 gk v30 true (fun k => ck (.bo 4) [v2] eC k) (
 gd v30 true (fun k => cl PP w0 K9 [eC] E k) fun fu =>
 gd v30 true (fun k => pr (.aN .eql) [iI, fu] k) fun eQ =>
 pr (.pick) [v30, eQ, (.bool false)] fun dW =>
 LJ w0 E R v1 x2 dW)
def LM (w0 : World) (E R : Value → W) (v3 v2 v1 x2 v28 : Value) : W :=
 gd v3 true (fun k => k v28) fun du =>
 pr (.pick) [v3, du, (.bool false)] fun v30 =>
 LK w0 E R v2 v1 x2 v30
def LN (w0 : World) (E R : Value → W) (v1 v3 v2 x2 aZ : Value) : W :=
 gd aZ true (fun k => pr (.bo 7) [v1] k) fun bZ =>
 gd aZ true (fun k => pr (.bo 7) [v1] k) fun v24 =>
 gd aZ true (fun k => cl PP w0 Kk [bZ] E k) fun ft =>
 gk aZ true (fun k => ck (.bo 7) [v1] v24 k) (
 gd aZ true (fun k => cl PP w0 LB [v24] E k) fun eo =>
 gd aZ true (fun k => cl PP w0 zY [ft, eo] E k) fun dm =>
 pr (.pick) [aZ, dm, (.bool false)] fun v28 =>
 LM w0 E R v3 v2 v1 x2 v28)
def LQ (w0 : World) (E R : Value → W) (v1 v3 v2 x2 bC : Value) : W :=
 gd bC true (fun k => pr (.bo 7) [v1] k) fun dA =>
 gd bC true (fun k => pr (.bo 7) [v1] k) fun cD =>
 gd bC true (fun k => cl PP w0 Lc [dA] E k) fun dB =>
 gk bC true (fun k => ck (.bo 7) [v1] cD k) (
 gd bC true (fun k => cl PP w0 Ln [cD] E k) fun v20 =>
 gd bC true (fun k => cl PP w0 Ls [dB, v20] E k) fun v21 =>
 pr (.pick) [bC, v21, (.bool false)] fun aZ =>
 LN w0 E R v1 v3 v2 x2 aZ)
def LS (w0 : World) (E R : Value → W) (v2 v1 x2 v3 : Value) : W :=
 pr (.bo 4) [v2] fun v4 =>
 pr (.bo 4) [v2] fun v5 =>
 cl PP w0 Kh [v4] E fun v6 =>
 ck (.bo 4) [v2] v5 (
 cl PP w0 K7 [v5] E fun v7 =>
 cl PP w0 zY [v6, v7] E fun v8 =>
 gd v8 true (fun k => pr (.bo 7) [v1] k) fun v9 =>
 gd v8 true (fun k => k x2) fun v10 =>
 gd v8 true (fun k => pr (.bo 7) [v1] k) fun v11 =>
 gd v8 true (fun k => k x2) fun v12 =>
 gd v8 true (fun k => cl PP w0 J4 [v9, v10] E k) fun b9 =>
 gk v8 true (fun k => ck (.move) [x2] v12 k) (
 gk v8 true (fun k => ck (.bo 7) [v1] v11 k) (
 gd v8 true (fun k => cl PP w0 Lg [v11, v12] E k) fun bP =>
 gd v8 true (fun k => cl PP w0 zY [b9, bP] E k) fun cQ =>
 pr (.pick) [v8, cQ, (.bool false)] fun bC =>
 LQ w0 E R v1 v3 v2 x2 bC)))
def TY (w0 : World) (E R : Value → W) (x0 x1 x2 : Value) : W :=
 pr (.box 25) [x0] fun v1 =>
 pr (.box 67) [x1] fun v2 =>
 cl PP w0 LU [] E fun v3 =>
 pr (.bo 7) [v1] fun lI =>
 cl PP w0 Kp [lI] E fun v46 =>
 pr (.dQ) [v46] fun kb =>
 br kb (
 R v3) (
 LS w0 E R v2 v1 x2 v3)
theorem ac6 {w0 : World} {h : AH} {Q : CR → AH → Prop} (x0 x1 x2 : Value) (H : TY w0 (fun v h => Q (.aP v) h) (fun v h => Q (.ret v) h) x0 x1 x2 h) : WF PP w0 TZ [x0, x1, x2] h Q :=
 dM bE e7 [] (by kernel_rfl) (Eq.mp (by kernel_rfl) H)
end
end Go.Ve.T
namespace Go.Ve
open Go.RowKit
open Classical
noncomputable section
structure Sub (g h : AH) : Prop where
 nx : g.nx ≤ h.nx
 get : ∀ f x, g.ob.get f = some x → h.ob.get f = some x
theorem Sub.refl (g : AH) : Sub g g := ⟨Nat.le_refl _, fun _ _ h => h⟩
theorem Sub.trans {a b c : AH} (h1 : Sub a b) (h2 : Sub b c) : Sub a c := ⟨Nat.le_trans h1.nx h2.nx, fun f x h => h2.get f x (h1.get f x h)⟩
theorem Sub.rd {g h : AH} (S : Sub g h) {b o : Nat} {v : Value} (hr : g.rd b o = some v) : h.rd b o = some v := by
 unfold AH.rd at hr ⊢
 cases hg : g.ob.get b with
 | none => rw [hg] at hr; cases hr
 | some x => rw [S.get b x hg]; rw [hg] at hr; exact hr
theorem Sub.bU {g h : AH} (S : Sub g h) {b o : Nat} {l : List Value} (hr : g.bU b o l) : h.bU b o l := fun i v hv => S.rd (hr i v hv)
def au {α β : Type} (R : α → β → Prop) (l : List α) (m : List β) : Prop := l.length = m.length ∧ ∀ (i : Nat) x y, l[i]? = some x → m[i]? = some y → R x y
section
variable {α β : Type} {R R' : α → β → Prop} {l l2 : List α} {m m2 : List β}
theorem au.nil : au R [] [] := ⟨rfl, fun i x y h => by simp at h⟩
theorem au.mono (H : au R l m) (hm : ∀ x y, R x y → R' x y) : au R' l m := ⟨H.1, fun i x y h1 h2 => hm x y (H.2 i x y h1 h2)⟩
theorem au.get (H : au R l m) {i : Nat} {y : β} (hy : m[i]? = some y) : ∃ x, l[i]? = some x ∧ R x y := by
 have hi : i < m.length := (List.getElem?_eq_some_iff.1 hy).1
 have hl : i < l.length := by rw [H.1]; exact hi
 exact ⟨l[i], List.getElem?_eq_getElem hl, H.2 i _ _ (List.getElem?_eq_getElem hl) hy⟩
theorem au.append (H : au R l m) (H2 : au R l2 m2) : au R (l ++ l2) (m ++ m2) := by
 refine ⟨by simp [H.1, H2.1], fun i x y hx hy => ?_⟩
 by_cases hi : i < l.length
 · rw [List.getElem?_append_left hi] at hx
   rw [List.getElem?_append_left (by rw [← H.1]; exact hi)] at hy
   exact H.2 i x y hx hy
 · rw [List.getElem?_append_right (by omega)] at hx
   rw [List.getElem?_append_right (by rw [← H.1]; omega), ← H.1] at hy
   exact H2.2 _ x y hx hy
theorem au.one {x : α} {y : β} (h : R x y) : au R [x] [y] := ⟨rfl, fun i a b ha hb => by
 cases i with
 | zero => simp at ha hb; subst ha; subst hb; exact h
 | succ i => simp at ha⟩
theorem au.push {x : α} {y : β} (H : au R l m) (h : R x y) : au R (l ++ [x]) (m ++ [y]) := H.append (.one h)
theorem au.set {x : α} {y : β} (H : au R l m) (h : R x y) (i : Nat) : au R (l.set i x) (m.set i y) := by
 refine ⟨by simp [H.1], fun j a b ha hb => ?_⟩
 rw [List.getElem?_set] at ha hb
 by_cases e : i = j
 · subst e
   rw [if_pos rfl] at ha hb
   split at ha
   · cases ha
     split at hb
     · cases hb; exact h
     · cases hb
   · cases ha
 · rw [if_neg e] at ha hb; exact H.2 j a b ha hb
theorem au.take (H : au R l m) (n : Nat) : au R (l.take n) (m.take n) := ⟨by simp [H.1], fun i x y hx hy => by
 rw [List.getElem?_take] at hx hy
 split at hx
 · rename_i hi; rw [if_pos hi] at hy; exact H.2 i x y hx hy
 · cases hx⟩
theorem au.drop (H : au R l m) (n : Nat) : au R (l.drop n) (m.drop n) := ⟨by simp [H.1], fun i x y hx hy => by
 rw [List.getElem?_drop] at hx hy; exact H.2 _ x y hx hy⟩
theorem au.P3 {x : α} {y : β} (h : R x y) : ∀ n, au R (List.replicate n x) (List.replicate n y)
 | 0 => .nil
 | n + 1 => ⟨by simp, fun i a b ha hb => by
  have h1 := List.mem_of_getElem? ha
  have h2 := List.mem_of_getElem? hb
  rw [(List.mem_replicate.1 h1).2, (List.mem_replicate.1 h2).2]; exact h⟩
end
def ix {α : Type} (l : List α) : Int → Option α
 | .ofNat n => l[n]?
 | .negSucc _ => none
theorem kS {α : Type} (l : List α) (n : Nat) : ix l (n : Int) = l[n]? := rfl
theorem yV {α : Type} {l : List α} {n : Int} {x : α} (h : ix l n = some x) : ∃ i : Nat, n = i ∧ i < l.length ∧ l[i]? = some x := by
 cases n with
 | ofNat i => exact ⟨i, rfl, (List.getElem?_eq_some_iff.1 h).1, h⟩
 | negSucc i => cases h
theorem bind_some {α β : Type} {o : Option α} {f : α → Option β} {r : β} (h : o.bind f = some r) : ∃ x, o = some x ∧ f x = some r := by
 cases o with
 | none => cases h
 | some x => exact ⟨x, rfl, h⟩
theorem aR {α : Type} {c : Bool} {a b r : α} (hc : c = true) (h : (bif c then a else b) = r) : a = r := by subst hc; exact h
theorem aS {α : Type} {c : Bool} {a b r : α} (hc : c = false) (h : (bif c then a else b) = r) : b = r := by subst hc; exact h
def gu {α : Type} (c : Bool) (k : Option α) : Option α := bif c then k else none
theorem mD {α : Type} {c : Bool} {k : Option α} {r : α} (h : gu c k = some r) : c = true ∧ k = some r := by
 cases c with
 | false => cases h
 | true => exact ⟨rfl, h⟩
abbrev ie (α : Type) := AH → List Value → α → Prop
def wa {α : Type} (rep : ie α) : Prop := ∀ g g' vs x, Sub g g' → rep g vs x → rep g' vs x
def Y2 (sz n cap : Nat) : Prop := n < aY ∧ ((n ≤ cap ∧ cap < aY) ∨ cap = aY + sz)
inductive gP (g : AH) (sz : Nat) : Value → List (List Value) → Prop where
 | nil : gP g sz cH []
 | mk (b o n cap : Nat) (ls : List (List Value)) (hn : n = ls.length) (hc : Y2 sz n cap) (hs : ∀ x ∈ ls, x.length = sz) (hr : g.bU b o ls.flatten) : gP g sz (fG b o n cap) ls
theorem gP.mono {g g' : AH} {sz : Nat} {v : Value} {ls : List (List Value)} (S : Sub g g') (H : gP g sz v ls) : gP g' sz v ls := by
 cases H with
 | nil => exact .nil
 | mk b o n cap ls hn hc hs hr => exact .mk b o n cap ls hn hc hs (S.bU hr)
def ae {α : Type} (rep : ie α) (sz : Nat) (g : AH) (v : Value) (l : List α) : Prop := ∃ ls, gP g sz v ls ∧ au (rep g) ls l
theorem ae.mono {α : Type} {rep : ie α} {sz : Nat} {g g' : AH} {v : Value} {l : List α} (H : ae rep sz g v l) (hm : wa rep) (S : Sub g g') : ae rep sz g' v l := by
 obtain ⟨ls, h1, h2⟩ := H
 exact ⟨ls, h1.mono S, h2.mono fun x y h => hm _ _ _ _ S h⟩
theorem ae.nil {α : Type} {rep : ie α} {sz : Nat} {g : AH} : ae rep sz g cH [] := ⟨[], .nil, .nil⟩
theorem gP.one {g : AH} {sz : Nat} {v : Value} {ls : List (List Value)} (H : gP g sz v ls) : fb v = true := by cases H <;> rfl
theorem ae.one {α : Type} {rep : ie α} {sz : Nat} {g : AH} {v : Value} {l : List α} (H : ae rep sz g v l) : fb v = true := by obtain ⟨ls, h1, _⟩ := H; exact h1.one
def rI (k : IntKind) : ie Int := fun _ vs x => vs = [.int k x]
def rB : ie Bool := fun _ vs x => vs = [.bool x]
def rS : ie ByteArray := fun _ vs x => vs = [.string x]
def rL {α : Type} (rep : ie α) (sz : Nat) : ie (List α) := fun g vs x => ∃ v, vs = [v] ∧ ae rep sz g v x
theorem ig (k : IntKind) : wa (rI k) := fun _ _ _ _ _ h => h
theorem qz : wa rB := fun _ _ _ _ _ h => h
theorem o4 {sz : Nat} : ∀ {l : List (List Value)}, (∀ x ∈ l, x.length = sz) → l.flatten.length = l.length * sz
 | [], _ => by simp
 | x :: l, hs => by
  rw [List.flatten_cons, List.length_append, hs x List.mem_cons_self, o4 fun y hy => hs y (List.mem_cons_of_mem _ hy), List.length_cons, Nat.add_mul]; omega
theorem P4 {sz : Nat} : ∀ {l : List (List Value)} (n : Nat), (∀ x ∈ l, x.length = sz) → (l.drop n).flatten = l.flatten.drop (n * sz)
 | [], n, _ => by simp
 | x :: l, 0, _ => by simp
 | x :: l, n + 1, hs => by
  rw [List.drop_succ_cons, List.flatten_cons, P4 n fun y hy => hs y (List.mem_cons_of_mem _ hy), List.drop_append, List.drop_of_length_le (l := x) (by rw [hs x List.mem_cons_self, Nat.add_mul]; omega), List.nil_append, hs x List.mem_cons_self]
  congr 1
  rw [Nat.add_mul]; omega
theorem P5 {sz : Nat} : ∀ {l : List (List Value)} (n : Nat), (∀ x ∈ l, x.length = sz) → (l.take n).flatten = l.flatten.take (n * sz)
 | [], n, _ => by simp
 | x :: l, 0, _ => by simp
 | x :: l, n + 1, hs => by
  rw [List.take_succ_cons, List.flatten_cons, List.flatten_cons, P5 n fun y hy => hs y (List.mem_cons_of_mem _ hy), List.take_append, hs x List.mem_cons_self, List.take_of_length_le (show x.length ≤ (n + 1) * sz by rw [hs x List.mem_cons_self, Nat.add_mul]; omega)]
  congr 2
  rw [Nat.add_mul]; omega
theorem Y3 {sz : Nat} : ∀ {l : List (List Value)} {i : Nat} {y : List Value}, (∀ x ∈ l, x.length = sz) → y.length = sz → i < l.length → ∀ j, (l.set i y).flatten[j]? = if i * sz ≤ j ∧ j < i * sz + sz then y[j - i * sz]? else l.flatten[j]?
 | [], i, y, _, _, h, j => by simp at h
 | x :: l, 0, y, hs, hy, _, j => by
  have hx := hs x List.mem_cons_self
  rw [List.set_cons_zero, List.flatten_cons, List.flatten_cons, Nat.zero_mul, Nat.zero_add]
  by_cases hj : j < sz
  · rw [if_pos ⟨Nat.zero_le _, hj⟩, List.getElem?_append_left (by omega)]; rfl
  · rw [if_neg (fun h => hj h.2), List.getElem?_append_right (by omega), List.getElem?_append_right (by omega), hx, hy]
 | x :: l, i + 1, y, hs, hy, hi, j => by
  have hx := hs x List.mem_cons_self
  rw [List.set_cons_succ, List.flatten_cons, List.flatten_cons]
  have e : (i + 1) * sz = i * sz + sz := by rw [Nat.add_mul]; omega
  by_cases hj : j < sz
  · rw [List.getElem?_append_left (by omega), if_neg (by omega), List.getElem?_append_left (by omega)]
  · rw [List.getElem?_append_right (by omega), List.getElem?_append_right (by omega), Y3 (fun z hz => hs z (List.mem_cons_of_mem _ hz)) hy (by simpa using hi), hx, e]
    by_cases h2 : i * sz ≤ j - sz ∧ j - sz < i * sz + sz
    · rw [if_pos h2, if_pos (by omega)]; congr 1; omega
    · rw [if_neg h2, if_neg (by omega)]
theorem P6 {h : AH} {b o : Nat} {l : List Value} (n : Nat) (H : h.bU b o l) : h.bU b o (l.take n) := fun i v hv => H i v (by
 rw [List.getElem?_take] at hv; split at hv
 · exact hv
 · cases hv)
theorem P7 {h : AH} {b o : Nat} {l : List Value} (n : Nat) (H : h.bU b o l) : h.bU b (o + n) (l.drop n) := fun i v hv => by
 rw [List.getElem?_drop] at hv
 have := H (n + i) v hv
 rwa [show o + n + i = o + (n + i) by omega]
inductive ei (h : AH) (ty : TypeId) (sz : Nat) : Value → List (List Value) → Prop where
 | nil : ei h ty sz cH []
 | un (b o n lo hi : Nat) (c : NT Value) (ls : List (List Value)) (hn : n = ls.length) (hb : n < aY) (hg : h.ob.get b = some (.cells lo hi ty true c)) (h1 : lo ≤ o) (h2 : o + n * sz ≤ hi) (hr : h.bU b o ls.flatten) (hs : ∀ x ∈ ls, x.length = sz) : ei h ty sz (fG b o n (aY + sz)) ls
 | kn (b o n cap lo hi : Nat) (cz : TypeId) (c : NT Value) (ls : List (List Value)) (hn : n = ls.length) (hb : n ≤ cap) (hc : cap < aY) (hg : h.ob.get b = some (.cells lo hi cz true c)) (h1 : lo ≤ o) (h2 : o + cap * sz ≤ hi) (hr : h.bU b o ls.flatten) (hs : ∀ x ∈ ls, x.length = sz) : ei h ty sz (fG b o n cap) ls
def ej : Value → List Nat
 | .slice (some a) _ _ => [a.block]
 | _ => []
theorem ei.one {h : AH} {ty : TypeId} {sz : Nat} {v : Value} {ls : List (List Value)} (H : ei h ty sz v ls) : fb v = true := by cases H <;> rfl
theorem ei.read {h : AH} {ty : TypeId} {sz : Nat} {v : Value} {ls : List (List Value)} (H : ei h ty sz v ls) : gP h sz v ls := by
 cases H with
 | nil => exact .nil
 | un b o n lo hi c ls hn hb hg h1 h2 hr hs => exact .mk b o n _ ls hn ⟨hb, .inr rfl⟩ hs hr
 | kn b o n cap lo hi cz c ls hn hb hc hg h1 h2 hr hs => exact .mk b o n cap ls hn ⟨by omega, .inl ⟨hb, hc⟩⟩ hs hr
theorem wb {h h' : AH} {b o : Nat} {l : List Value} (e : h'.ob.get b = h.ob.get b) (H : h.bU b o l) : h'.bU b o l := fun i v hv => by
 have := H i v hv
 unfold AH.rd at this ⊢
 rw [e]; exact this
theorem ei.yW {h h' : AH} {ty : TypeId} {sz : Nat} {v : Value} {ls : List (List Value)} (H : ei h ty sz v ls) (e : ∀ b ∈ ej v, h'.ob.get b = h.ob.get b) : ei h' ty sz v ls := by
 cases H with
 | nil => exact .nil
 | un b o n lo hi c ls hn hb hg h1 h2 hr hs =>
  have e := e b (by simp [ej])
  exact .un b o n lo hi c ls hn hb (e.trans hg) h1 h2 (wb e hr) hs
 | kn b o n cap lo hi cz c ls hn hb hc hg h1 h2 hr hs =>
  have e := e b (by simp [ej])
  exact .kn b o n cap lo hi cz c ls hn hb hc (e.trans hg) h1 h2 (wb e hr) hs
inductive Ob where
 | bx (b : Nat) (l : List Value)
 | sl (ty : TypeId) (sz : Nat) (v : Value) (ls : List (List Value))
 | lp (n : Nat) (lo : LO) (st : LoopState) (pd : Option Code)
 | ds (d : List Nat)
 | mp (b : Nat) (es : List (Value × Value × Nat)) (cl : Nat)
 | raw (b : Nat) (a : AO)
def Ob.bA : Ob → List Nat
 | .bx b _ => [b]
 | .sl _ _ v _ => ej v
 | .lp n _ _ _ => [n]
 | .ds d => d
 | .mp b _ _ => [b]
 | .raw b _ => [b]
def Ob.ok (h : AH) : Ob → Prop
 | .bx b l => h.bU b 0 l ∧ h.can b 0 l.length
 | .sl ty sz v ls => ei h ty sz v ls
 | .lp n lo st pd => h.ob.get n = some (lo st pd)
 | .ds d => ∀ r ∈ d, h.ob.get r = some (.defs false)
 | .mp b es cl => h.ob.get b = some (.map es cl)
 | .raw b a => h.ob.get b = some a
theorem aiF {h h' : AH} {b o n : Nat} (e : h'.ob.get b = h.ob.get b) (H : h.can b o n) : h'.can b o n := by
 obtain ⟨lo, hi, ty, c, h1, h2, h3⟩ := H
 exact ⟨lo, hi, ty, c, e.trans h1, h2, h3⟩
theorem Ob.yW {h h' : AH} {o : Ob} (H : o.ok h) (e : ∀ b ∈ o.bA, h'.ob.get b = h.ob.get b) : o.ok h' := by
 cases o with
 | bx b l =>
  have e := e b (by simp [Ob.bA])
  exact ⟨wb e H.1, aiF e H.2⟩
 | sl ty sz v ls => exact ei.yW H e
 | lp n lo st pd => exact (e n (by simp [Ob.bA])).trans H
 | ds d => exact fun r hr => (e r hr).trans (H r hr)
 | mp b es cl => exact (e b (by simp [Ob.bA])).trans H
 | raw b a => exact (e b (by simp [Ob.bA])).trans H
structure Cx where
 g : AH
 h : AH
 C : List Nat
structure Sep (c : Cx) (g h : AH) (Γ : List Ob) : Prop where
 bX : Sub c.g g
 sub : Sub g h
 ok : h.Ok
 nx : c.h.nx ≤ h.nx
 old : ∀ f, f < c.h.nx → f ∉ c.C → h.ob.get f = c.h.ob.get f ∧ (c.g.ob.get f = none → g.ob.get f = none)
 dT : ∀ o ∈ Γ, o.ok h
 nd : (Γ.flatMap Ob.bA).Nodup
 own : ∀ b ∈ Γ.flatMap Ob.bA, b < h.nx ∧ g.ob.get b = none ∧ (c.h.nx ≤ b ∨ b ∈ c.C)
section
variable {c : Cx} {g h h' g' : AH} {Γ Γ' : List Ob} {o : Ob}
theorem Sep.start (S : Sub g h) (ok : h.Ok) : Sep ⟨g, h, []⟩ g h [] := ⟨.refl _, S, ok, Nat.le_refl _, fun f _ _ => ⟨rfl, id⟩, fun o ho => by simp at ho, by simp, fun b hb => by simp at hb⟩
theorem Sep.perm (S : Sep c g h Γ) (p : Γ'.Perm Γ) : Sep c g h Γ' :=
 have pf : (Γ'.flatMap Ob.bA).Perm (Γ.flatMap Ob.bA) := p.flatMap_right _
 ⟨S.bX, S.sub, S.ok, S.nx, S.old, fun o ho => S.dT o (p.mem_iff.1 ho), pf.nodup_iff.2 S.nd, fun b hb => S.own b (pf.mem_iff.1 hb)⟩
theorem Y4 {α : Type} : ∀ {l : List α} {i : Nat} {x : α}, l[i]? = some x → (x :: l.eraseIdx i).Perm l
 | [], i, x, h => by simp at h
 | y :: l, 0, x, h => by simp at h; subst h; exact .refl _
 | y :: l, i + 1, x, h => by
  have := Y4 (l := l) (i := i) (x := x) (by simpa using h)
  exact (List.Perm.swap y x _).trans (this.cons y)
theorem Sep.front (S : Sep c g h Γ) (i : Nat) (hi : Γ[i]? = some o) (e : Γ.eraseIdx i = Γ') : Sep c g h (o :: Γ') := e ▸ S.perm (Y4 hi)
theorem Sep.drop (S : Sep c g h (o :: Γ)) : Sep c g h Γ :=
 ⟨S.bX, S.sub, S.ok, S.nx, S.old, fun x hx => S.dT x (List.mem_cons_of_mem _ hx), by have := S.nd; rw [List.flatMap_cons] at this; exact (List.nodup_append.1 this).2.1, fun b hb => S.own b (by rw [List.flatMap_cons]; exact List.mem_append_right _ hb)⟩
theorem Sep.bj (S : Sep c g h Γ) : Sep c g h [] :=
 ⟨S.bX, S.sub, S.ok, S.nx, S.old, fun x hx => by simp at hx, by simp, fun b hb => by simp at hb⟩
theorem Sep.apart (S : Sep c g h (o :: Γ)) {b : Nat} (hb : b ∈ o.bA) : b ∉ Γ.flatMap Ob.bA := fun cw => by
 have := S.nd
 rw [List.flatMap_cons] at this
 exact (List.nodup_append.1 this).2.2 b hb b cw rfl
theorem Sep.change (S : Sep c g h (o :: Γ)) (o' : Ob) (wc : h'.Ok) (qc : h.nx ≤ h'.nx) (cB : ∀ f, f < h.nx → f ∉ o.bA → h'.ob.get f = h.ob.get f) (ho : o'.ok h') (ny : o'.bA.Nodup)
 (hb : ∀ b ∈ o'.bA, b < h'.nx ∧ (h.nx ≤ b ∨ b ∈ o.bA)) : Sep c g h' (o' :: Γ) := by
 have own := fun b hb => S.own b (show b ∈ (o :: Γ).flatMap Ob.bA from hb)
 have P8 : ∀ b ∈ o.bA, b < h.nx ∧ g.ob.get b = none ∧ (c.h.nx ≤ b ∨ b ∈ c.C) := fun b hb => own b (by rw [List.flatMap_cons]; exact List.mem_append_left _ hb)
 have aiG : ∀ f, h.nx ≤ f → g.ob.get f = none := fun f hf => by
  cases hg : g.ob.get f with
  | none => rfl
  | some x => have := S.sub.get f x hg; rw [S.ok f hf] at this; cases this
 refine ⟨S.bX, ⟨Nat.le_trans S.sub.nx qc, fun f x hx => ?_⟩, wc, Nat.le_trans S.nx qc, fun f hf hc => ?_, fun x hx => ?_, ?_, fun b cw => ?_⟩
 · have h1 := S.sub.get f x hx
   have bW : f < h.nx := AH.lt_of_get S.ok h1
   rw [cB f bW (fun hm => by rw [(P8 f hm).2.1] at hx; cases hx)]; exact h1
 · obtain ⟨h1, h2⟩ := S.old f hf hc
   refine ⟨?_, h2⟩
   rw [cB f (Nat.lt_of_lt_of_le hf S.nx) (fun hm => by exact (P8 f hm).2.2.elim (fun h3 => by omega) hc)]; exact h1
 · rcases List.mem_cons.1 hx with rfl | hx
   · exact ho
   · refine Ob.yW (S.dT x (List.mem_cons_of_mem _ hx)) fun b lQ => ?_
     have hm : b ∈ Γ.flatMap Ob.bA := List.mem_flatMap.2 ⟨x, hx, lQ⟩
     have bW := (own b (by rw [List.flatMap_cons]; exact List.mem_append_right _ hm)).1
     exact cB b bW fun Bc => S.apart Bc hm
 · rw [List.flatMap_cons]
   refine List.nodup_append.2 ⟨ny, S.drop.nd, fun a ha b lQ e => ?_⟩
   subst e
   rcases (hb a ha).2 with h1 | h1
   · have := (S.drop.own a lQ).1; omega
   · exact S.apart h1 lQ
 · rw [List.flatMap_cons] at cw
   rcases List.mem_append.1 cw with h1 | h1
   · obtain ⟨h2, h3⟩ := hb b h1
     refine ⟨h2, ?_⟩
     rcases h3 with h3 | h3
     · exact ⟨aiG b h3, .inl (Nat.le_trans S.nx h3)⟩
     · exact (P8 b h3).2
   · obtain ⟨h2, h3⟩ := S.drop.own b h1
     exact ⟨by omega, h3⟩
theorem Sep.add (S : Sep c g h Γ) (o' : Ob) (wc : h'.Ok) (qc : h.nx ≤ h'.nx) (cB : ∀ f, f < h.nx → h'.ob.get f = h.ob.get f) (ho : o'.ok h') (ny : o'.bA.Nodup) (hb : ∀ b ∈ o'.bA, b < h'.nx ∧ h.nx ≤ b) : Sep c g h' (o' :: Γ) := by
 have S0 : Sep c g h (.sl 0 0 cH [] :: Γ) := ⟨S.bX, S.sub, S.ok, S.nx, S.old, fun x hx => by
  rcases List.mem_cons.1 hx with rfl | hx
  · exact ei.nil
  · exact S.dT x hx, by rw [List.flatMap_cons]; exact S.nd, fun b hb => S.own b (by rw [List.flatMap_cons] at hb; exact hb)⟩
 exact S0.change o' wc qc (fun f hf _ => cB f hf) ho ny fun b cw => ⟨(hb b cw).1, .inl (hb b cw).2⟩
theorem Sep.tZ (S : Sep c g h Γ) (ty : TypeId) (sz : Nat) : Sep c g h (.sl ty sz cH [] :: Γ) := S.add _ S.ok (Nat.le_refl _) (fun _ _ => rfl) ei.nil (by simp [Ob.bA, ej]) (fun b hb => by simp [Ob.bA, ej] at hb)
theorem Sep.cB (S : Sep c g h Γ) (K : dv h h') (wc : h'.Ok) : Sep c g h' Γ :=
 (Sep.add S (.sl 0 0 cH []) wc K.nx K.get ei.nil (by simp [Ob.bA, ej]) (fun b hb => by simp [Ob.bA, ej] at hb)).drop
theorem Sep.call {Γ1 : List Ob} (S : Sep c g h Γ) (S' : Sep ⟨g, h, []⟩ g' h' Γ1) : Sep c g' h' (Γ1 ++ Γ) := by
 have Y5 : ∀ b ∈ Γ1.flatMap Ob.bA, b < h'.nx ∧ g'.ob.get b = none ∧ h.nx ≤ b := fun b hb => by
  obtain ⟨h1, h2, h3⟩ := S'.own b hb
  refine ⟨h1, h2, ?_⟩
  rcases h3 with h3 | h3
  · exact h3
  · simp at h3
 have P9 : ∀ f, f < h.nx → h'.ob.get f = h.ob.get f ∧ (g.ob.get f = none → g'.ob.get f = none) := fun f hf => S'.old f hf (by simp)
 refine ⟨S.bX.trans S'.bX, S'.sub, S'.ok, Nat.le_trans S.nx S'.nx, fun f hf hc => ?_, fun x hx => ?_, ?_, fun b hb => ?_⟩
 · obtain ⟨h1, h2⟩ := S.old f hf hc
   obtain ⟨h3, h4⟩ := P9 f (Nat.lt_of_lt_of_le hf S.nx)
   exact ⟨h3.trans h1, fun hn => h4 (h2 hn)⟩
 · rcases List.mem_append.1 hx with hx | hx
   · exact S'.dT x hx
   · refine Ob.yW (S.dT x hx) fun b hb => ?_
     exact (P9 b (S.own b (List.mem_flatMap.2 ⟨x, hx, hb⟩)).1).1
 · rw [List.flatMap_append]
   refine List.nodup_append.2 ⟨S'.nd, S.nd, fun a ha b hb e => ?_⟩
   subst e
   have := (Y5 a ha).2.2
   have := (S.own a hb).1
   omega
 · rw [List.flatMap_append] at hb
   rcases List.mem_append.1 hb with hb | hb
   · obtain ⟨h1, h2, h3⟩ := Y5 b hb
     exact ⟨h1, h2, .inl (Nat.le_trans S.nx h3)⟩
   · obtain ⟨h1, h2, h3⟩ := S.own b hb
     exact ⟨Nat.lt_of_lt_of_le h1 S'.nx, (P9 b h1).2 h2, h3⟩
theorem Sep.Y6 (S : Sep c g h (o :: Γ)) : Sep ⟨g, h, o.bA⟩ g h [o] := by
 refine ⟨.refl _, S.sub, S.ok, Nat.le_refl _, fun f _ _ => ⟨rfl, id⟩, fun x hx => S.dT x (by rcases List.mem_cons.1 hx with rfl | hx <;> simp_all), ?_, fun b hb => ?_⟩
 · have := S.nd
   rw [List.flatMap_cons] at this
   simpa using (List.nodup_append.1 this).1
 · have cw : b ∈ o.bA := by simpa using hb
   obtain ⟨h1, h2, _⟩ := S.own b (by rw [List.flatMap_cons]; exact List.mem_append_left _ cw)
   exact ⟨h1, h2, .inr cw⟩
theorem Sep.aiH {Γ1 : List Ob} (S : Sep c g h (o :: Γ)) (S' : Sep ⟨g, h, o.bA⟩ g' h' Γ1) : Sep c g' h' (Γ1 ++ Γ) := by
 have Ie : ∀ b ∈ o.bA, b < h.nx ∧ g.ob.get b = none ∧ (c.h.nx ≤ b ∨ b ∈ c.C) := fun b hb => S.own b (by rw [List.flatMap_cons]; exact List.mem_append_left _ hb)
 have AE : ∀ b ∈ Γ.flatMap Ob.bA, b < h.nx ∧ g.ob.get b = none ∧ (c.h.nx ≤ b ∨ b ∈ c.C) := fun b hb => S.own b (by rw [List.flatMap_cons]; exact List.mem_append_right _ hb)
 refine ⟨S.bX.trans S'.bX, S'.sub, S'.ok, Nat.le_trans S.nx S'.nx, fun f hf hc => ?_, fun x hx => ?_, ?_, fun b hb => ?_⟩
 · obtain ⟨h1, h2⟩ := S.old f hf hc
   have rO : f ∉ o.bA := fun hm => by rcases (Ie f hm).2.2 with h3 | h3 <;> first | omega | exact hc h3
   obtain ⟨h3, h4⟩ := S'.old f (Nat.lt_of_lt_of_le hf S.nx) rO
   exact ⟨h3.trans h1, fun hn => h4 (h2 hn)⟩
 · rcases List.mem_append.1 hx with hx | hx
   · exact S'.dT x hx
   · refine Ob.yW (S.dT x (List.mem_cons_of_mem _ hx)) fun b hb => ?_
     have hm : b ∈ Γ.flatMap Ob.bA := List.mem_flatMap.2 ⟨x, hx, hb⟩
     exact (S'.old b (AE b hm).1 fun h2 => S.apart h2 hm).1
 · rw [List.flatMap_append]
   refine List.nodup_append.2 ⟨S'.nd, S.drop.nd, fun a ha b hb e => ?_⟩
   subst e
   rcases (S'.own a ha).2.2 with h1 | h1
   · have hZ : h.nx ≤ a := h1
     have := (AE a hb).1; omega
   · exact S.apart h1 hb
 · rw [List.flatMap_append] at hb
   rcases List.mem_append.1 hb with hb | hb
   · obtain ⟨h1, h2, h3⟩ := S'.own b hb
     refine ⟨h1, h2, ?_⟩
     rcases h3 with h3 | h3
     · exact .inl (Nat.le_trans S.nx h3)
     · exact (Ie b h3).2.2
   · obtain ⟨h1, h2, h3⟩ := AE b hb
     exact ⟨Nat.lt_of_lt_of_le h1 S'.nx, (S'.old b h1 fun h4 => S.apart h4 hb).2 h2, h3⟩
def AH.Cq (g h : AH) (b : Nat) : AH := ⟨h.nx, g.ob.set b (h.ob.get b)⟩
theorem AH.Cr (g h : AH) (b f : Nat) : (g.Cq h b).ob.get f = if f = b then h.ob.get b else g.ob.get f := by
 show (g.ob.set b _).get f = _
 rw [NT.dc]
theorem Sep.freeze (S : Sep c g h (o :: Γ)) {b : Nat} (hb : o.bA = [b]) : Sub g (g.Cq h b) ∧ Sep c (g.Cq h b) h Γ ∧ (g.Cq h b).ob.get b = h.ob.get b := by
 have Y7 : b ∈ o.bA := by rw [hb]; simp
 obtain ⟨h1, h2, h3⟩ := S.own b (by rw [List.flatMap_cons]; exact List.mem_append_left _ Y7)
 have sg : Sub g (g.Cq h b) := ⟨S.sub.nx, fun f x hx => by
  rw [AH.Cr]
  split
  · rename_i e; subst e; rw [h2] at hx; cases hx
  · exact hx⟩
 refine ⟨sg, ⟨S.bX.trans sg, ⟨Nat.le_refl _, fun f x hx => ?_⟩, S.ok, S.nx, fun f hf hc => ?_, S.drop.dT, S.drop.nd, fun b' cw => ?_⟩, by rw [AH.Cr, if_pos rfl]⟩
 · rw [AH.Cr] at hx
   split at hx
   · rename_i e; subst e; exact hx
   · exact S.sub.get f x hx
 · obtain ⟨h4, h5⟩ := S.old f hf hc
   refine ⟨h4, fun hn => ?_⟩
   rw [AH.Cr, if_neg]
   · exact h5 hn
   · rintro rfl
     rcases h3 with h3 | h3
     · omega
     · exact hc h3
 · obtain ⟨h4, h5, h6⟩ := S.drop.own b' cw
   refine ⟨h4, ?_, h6⟩
   rw [AH.Cr, if_neg]
   · exact h5
   · rintro rfl; exact S.apart Y7 cw
theorem Sep.yX {b : Nat} {l : List Value} (S : Sep c g h (.bx b l :: Γ)) : ∃ g', Sub g g' ∧ Sep c g' h Γ ∧ g'.bU b 0 l := by
 obtain ⟨h1, h2, h3⟩ := S.freeze (b := b) rfl
 exact ⟨_, h1, h2, wb h3 (S.dT _ List.mem_cons_self).1⟩
theorem Sep.aiI {ty : TypeId} {sz : Nat} {v : Value} {ls : List (List Value)} (S : Sep c g h (.sl ty sz v ls :: Γ)) : ∃ g', Sub g g' ∧ Sep c g' h Γ ∧ gP g' sz v ls := by
 have H : ei h ty sz v ls := S.dT _ List.mem_cons_self
 have R := H.read
 cases R with
 | nil => exact ⟨g, .refl _, S.drop, .nil⟩
 | mk b o n cap ls hn hc hs hr =>
  obtain ⟨h1, h2, h3⟩ := S.freeze (b := b) rfl
  exact ⟨_, h1, h2, .mk b o n cap ls hn hc hs (wb h3 hr)⟩
theorem Sep.fz {α : Type} {rep : ie α} {ty : TypeId} {sz : Nat} {v : Value} {ls : List (List Value)} {l : List α} (S : Sep c g h (.sl ty sz v ls :: Γ)) (A : au (rep g) ls l) (hm : wa rep) : ∃ g', Sub g g' ∧ Sep c g' h Γ ∧ ae rep sz g' v l := by
 obtain ⟨g', h1, h2, h3⟩ := S.aiI
 exact ⟨g', h1, h2, ls, h3, A.mono fun x y PG => hm _ _ _ _ h1 PG⟩
theorem Sep.back (S : Sep c g h Γ) (S' : Sep c g' h' Γ') (hs : Sub g g') : Sep c g h' Γ' :=
 ⟨S.bX, hs.trans S'.sub, S'.ok, S'.nx, fun f hf hc => ⟨(S'.old f hf hc).1, fun hn => (S.old f hf hc).2 hn⟩, S'.dT, S'.nd, fun b hb => by
  obtain ⟨h1, h2, h3⟩ := S'.own b hb
  refine ⟨h1, ?_, h3⟩
  cases hg : g.ob.get b with
  | none => rfl
  | some x => rw [hs.get b x hg] at h2; cases h2⟩
end
end
end Go.Ve
namespace Go.Ve
open Go.RowKit
open Classical
noncomputable section
theorem bp {c : Bool} {A B : W} {h : AH} (ht : c = true → A h) (hf : c = false → B h) : br (.bool c) A B h := by
 cases c with
 | true => exact ht rfl
 | false => exact hf rfl
theorem ax {c want : Bool} {A : (Value → W) → W} {K : Value → W} {h : AH} (e : c = want) (H : A K h) : gd (.bool c) want A K h := by
 subst e; unfold gd; cases c <;> exact H
theorem ay {c want : Bool} {A : (Value → W) → W} {K : Value → W} {h : AH} (e : c ≠ want) (H : K undef h) : gd (.bool c) want A K h := by
 unfold gd; cases c <;> cases want <;> first | exact absurd rfl e | exact H
section
variable {c : Cx} {g h : AH} {Γ : List Ob} {R : Value → AH → Prop}
theorem Sep.fQ {b o : Nat} {v : Value} (S : Sep c g h Γ) (hr : g.rd b o = some v) (K : R v h) : WP .aL [az b o] h R := (G9 (S.sub.rd hr)).2 K
theorem Sep.nA {b o n : Nat} {l : List Value} (S : Sep c g h Γ) (hr : g.bU b o l) (hn : l.length = n) (h0 : 0 < n) (K : R (.agg ⟨l⟩) h) : WP (.bo n) [az b o] h R := (Ha (S.sub.bU hr) hn h0).2 K
theorem Zk {ty : TypeId} {l : List Value} : Ob.ok (h.new ty l) (.bx h.nx l) := ⟨AH.G6 h ty l, AH.XD h ty l (by omega)⟩
theorem Sep.alloc {ty : TypeId} {l : List Value} (S : Sep c g h Γ) (ha : di l = true) (K : ∀ b h', Sep c g h' (.bx b l :: Γ) → R (az b 0) h') : WP (.alloc ty l) [] h R :=
 (BJ ha).2 (K _ _ (S.add _ (AH.tr S.ok _ _) (Nat.le_succ _) (dv.new h ty l).get Zk (by simp [Ob.bA]) (fun b hb => by simp [Ob.bA] at hb; subst hb; exact ⟨Nat.lt_succ_self _, Nat.le_refl _⟩)))
theorem Sep.box {ty : TypeId} {v : Value} (l : List Value) (S : Sep c g h Γ) (hl : cellsOf v = l) (ha : di l = true) (K : ∀ b h', Sep c g h' (.bx b l :: Γ) → R (az b 0) h') : WP (.box ty) [v] h R := by
 subst hl
 exact (G8 ha).2 (K _ _ (S.add _ (AH.tr S.ok _ _) (Nat.le_succ _) (dv.new h ty _).get Zk (by simp [Ob.bA]) (fun b hb => by simp [Ob.bA] at hb; subst hb; exact ⟨Nat.lt_succ_self _, Nat.le_refl _⟩)))
theorem Sep.aX {b o : Nat} {l : List Value} {v : Value} (S : Sep c g h Γ) (i : Nat) (hi : Γ[i]? = some (.bx b l)) (hv : l[o]? = some v) (K : R v h) : WP .aL [az b o] h R := by
 have := (S.dT _ (List.mem_of_getElem? hi)).1 o v hv
 rw [Nat.zero_add] at this
 exact (G9 this).2 K
theorem Sep.bV {b o n : Nat} {l : List Value} (m : List Value) (S : Sep c g h Γ) (i : Nat) (hi : Γ[i]? = some (.bx b l)) (hm : (l.drop o).take n = m) (hn : m.length = n) (h0 : 0 < n) (K : R (.agg ⟨m⟩) h) : WP (.bo n) [az b o] h R := by
 have := P6 n (P7 o (S.dT _ (List.mem_of_getElem? hi)).1)
 rw [Nat.zero_add, hm] at this
 exact (Ha this hn h0).2 K
theorem Zl {l m : List Value} {o j : Nat} (hl : o + m.length ≤ l.length) : (kP l o m)[j]? = if o ≤ j ∧ j < o + m.length then m[j - o]? else l[j]? := by
 unfold kP
 by_cases h1 : j < o
 · rw [if_neg (by omega), List.append_assoc, List.getElem?_append_left (by rw [List.length_take]; omega), List.getElem?_take, if_pos h1]
 · rw [List.append_assoc, List.getElem?_append_right (by rw [List.length_take]; omega), List.length_take, Nat.min_eq_left (by omega)]
   by_cases h2 : j < o + m.length
   · rw [if_pos (by omega), List.getElem?_append_left (by omega)]
   · rw [if_neg (by omega), List.getElem?_append_right (by omega), List.getElem?_drop]; congr 1; omega
theorem Qg {l m : List Value} {o : Nat} (hl : o + m.length ≤ l.length) : (kP l o m).length = l.length := by unfold kP; simp; omega
theorem Sep.cZ {b o n : Nat} {l : List Value} {v : Value} (m l' : List Value) (S : Sep c g h (.bx b l :: Γ)) (hm : cellsOf v = m) (hn : m.length = n) (ha : di m = true) (ho : o + n ≤ l.length) (gB : kP l o m = l') (K : ∀ h', Sep c g h' (.bx b l' :: Γ) → R undef h') : WP (.store n) [az b o, v] h R := by
 subst hm; subst gB; subst hn
 have H : Ob.ok h (.bx b l) := S.dT _ List.mem_cons_self
 obtain ⟨h1, lo, hi, ty, cc, h2, h3, h4⟩ := H
 have hc : h.can b o (cellsOf v).length := ⟨lo, hi, ty, cc, h2, by omega, by omega⟩
 refine (Hb hc rfl ha).2 (K _ ?_)
 have bW := AH.lt_of_get S.ok h2
 refine S.change _ (AH.vG S.ok _ _ _) (by rw [AH.mz]; exact Nat.le_refl _) (fun f _ hf => AH.tt h (by simp [Ob.bA] at hf; exact hf)) ⟨fun i u hu => ?_, ?_⟩ (by simp [Ob.bA]) (fun b' cw => by simp [Ob.bA] at cw; subst cw; exact ⟨by rw [AH.mz]; exact bW, .inr (by simp [Ob.bA])⟩)
 · rw [Zl ho] at hu
   rw [Nat.zero_add, AH.yD hc (Nat.le_refl _)]
   split at hu
   · rename_i hh; rw [if_pos ⟨rfl, hh⟩]; exact hu
   · rename_i hh; rw [if_neg (fun e => hh e.2)]; have := h1 i u hu; rwa [Nat.zero_add] at this
 · rw [Qg ho]; exact AH.XE ⟨lo, hi, ty, cc, h2, h3, h4⟩
def wh (v : Value) (sz i b o : Nat) : Prop := ∃ o0 n cap, v = fG b o0 n cap ∧ o = o0 + i * sz
theorem gP.len {h2 : AH} {sz : Nat} {v : Value} {ls : List (List Value)} (H : gP h2 sz v ls) (K : R (vi (ls.length : Int)) h) : WP .cO [v] h R := by
 cases H with
 | nil => exact agP.2 K
 | mk b o n cap ls hn hc hs hr => subst hn; exact agO.2 K
theorem gP.idx {h2 : AH} {sz : Nat} {v : Value} {ls : List (List Value)} (H : gP h2 sz v ls) {i : Nat} {x : List Value} (hx : ls[i]? = some x) :
 ∃ b o, wh v sz i b o ∧ h2.bU b o x ∧ ∀ (kd : IntKind) (h : AH) (R : Value → AH → Prop), R (az b o) h → WP (.cV sz) [v, .int kd (i : Int)] h R := by
 have hi : i < ls.length := (List.getElem?_eq_some_iff.1 hx).1
 cases H with
 | nil => simp at hi
 | mk b o n cap ls hn hc hs hr =>
  subst hn
  refine ⟨b, o + i * sz, ⟨o, _, cap, rfl, rfl⟩, fun j u hu => ?_, fun kd h R K => (agK hi).2 K⟩
  have := hr (i * sz + j) u (Pm hs hx j u hu)
  rwa [show o + (i * sz + j) = o + i * sz + j by omega] at this
theorem ae.len {α : Type} {rep : ie α} {g2 : AH} {sz : Nat} {v : Value} {l : List α} (F : ae rep sz g2 v l) (K : R (vi (l.length : Int)) h) : WP .cO [v] h R := by
 obtain ⟨ls, h1, h2⟩ := F
 exact h1.len (by rw [h2.1]; exact K)
theorem ae.idx {α : Type} {rep : ie α} {sz : Nat} {v : Value} {l : List α} {n : Int} {x : α} {kd : IntKind} (F : ae rep sz g v l) (hx : ix l n = some x) (K : ∀ b o vs, wh v sz n.toNat b o → g.bU b o vs → rep g vs x → R (az b o) h) : WP (.cV sz) [v, .int kd n] h R := by
 obtain ⟨i, rfl, hi, hx⟩ := yV hx
 obtain ⟨ls, h1, h2⟩ := F
 obtain ⟨cs, h3, h4⟩ := h2.get hx
 obtain ⟨b, o, h7, h5, h6⟩ := h1.idx h3
 exact h6 kd h R (K b o cs h7 h5 h4)
theorem Sep.Cs {α : Type} {rep : ie α} {ty : TypeId} {sz : Nat} {v : Value} {ls : List (List Value)} {l : List α} (S : Sep c g h Γ) (k : Nat) (hk : Γ[k]? = some (.sl ty sz v ls)) (A : au (rep g) ls l) (K : R (vi (l.length : Int)) h) : WP .cO [v] h R :=
 gP.len (ei.read (S.dT _ (List.mem_of_getElem? hk))) (by rw [A.1]; exact K)
theorem Sep.mE {α : Type} {rep : ie α} {ty : TypeId} {sz : Nat} {v : Value} {ls : List (List Value)} {l : List α} {n : Int} {x : α} {kd : IntKind} (S : Sep c g h Γ) (k : Nat) (hk : Γ[k]? = some (.sl ty sz v ls)) (A : au (rep g) ls l) (hx : ix l n = some x)
 (K : ∀ b o cs, wh v sz n.toNat b o → ls[n.toNat]? = some cs → rep g cs x → R (az b o) h) : WP (.cV sz) [v, .int kd n] h R := by
 obtain ⟨i, rfl, hi, hx⟩ := yV hx
 obtain ⟨cs, h3, h4⟩ := A.get hx
 obtain ⟨b, o, h5, _, h6⟩ := (ei.read (S.dT _ (List.mem_of_getElem? hk))).idx h3
 exact h6 kd h R (K b o cs h5 h3 h4)
theorem gP.elem {h2 : AH} {sz : Nat} {v : Value} {ls : List (List Value)} (H : gP h2 sz v ls) {i b o : Nat} {x : List Value} (hx : ls[i]? = some x) (E : wh v sz i b o) : h2.bU b o x := by
 obtain ⟨b', o', ⟨o0, n, cap, e1, e2⟩, h1, _⟩ := H.idx hx
 obtain ⟨o0', n', c9, e3, e4⟩ := E
 rw [e1] at e3
 cases e3
 rw [e4, ← e2]; exact h1
theorem Sep.yY {ty : TypeId} {sz : Nat} {v u : Value} {ls : List (List Value)} {i b o j : Nat} {cs : List Value} (S : Sep c g h Γ) (k : Nat) (hk : Γ[k]? = some (.sl ty sz v ls)) (E : wh v sz i b o) (hc : ls[i]? = some cs) (hv : cs[j]? = some u) (K : R u h) : WP .aL [az b (o + j)] h R :=
 (G9 (((ei.read (S.dT _ (List.mem_of_getElem? hk))).elem hc E) j u hv)).2 K
theorem ei.wr {ty : TypeId} {sz : Nat} {v : Value} {ls : List (List Value)} {i b o j : Nat} {cs m : List Value} (H : ei h ty sz v ls) (E : wh v sz i b o) (hc : ls[i]? = some cs) (hj : j + m.length ≤ sz) :
 ej v = [b] ∧ h.can b (o + j) m.length ∧ ei (h.wr b (o + j) m) ty sz v (ls.set i (kP cs j m)) := by
 have hi : i < ls.length := (List.getElem?_eq_some_iff.1 hc).1
 obtain ⟨o0, n0, Zm, e1, e2⟩ := E
 subst e2
 have le : (i + 1) * sz ≤ ls.length * sz := Nat.mul_le_mul_right _ hi
 have hk : i * sz + sz ≤ ls.length * sz := by rw [Nat.add_mul, Nat.one_mul] at le; exact le
 have fl : ∀ (hs : ∀ x ∈ ls, x.length = sz) (q : Nat) (u : Value), (ls.set i (kP cs j m)).flatten[q]? = some u → (if i * sz + j ≤ q ∧ q < i * sz + j + m.length then m[q - (i * sz + j)]? else ls.flatten[q]?) = some u := by
  intro hs q u hu
  have eK : cs.length = sz := hs cs (List.mem_of_getElem? hc)
  rw [Y3 hs (by rw [Qg (by omega), eK]) hi] at hu
  by_cases h1 : i * sz ≤ q ∧ q < i * sz + sz
  · rw [if_pos h1, Zl (by omega)] at hu
    by_cases h2 : j ≤ q - i * sz ∧ q - i * sz < j + m.length
    · rw [if_pos h2] at hu; rw [if_pos (by omega)]; rw [show q - (i * sz + j) = q - i * sz - j by omega]; exact hu
    · rw [if_neg h2] at hu; rw [if_neg (by omega)]
      have := Pm hs hc (q - i * sz) u hu
      rwa [show i * sz + (q - i * sz) = q by omega] at this
  · rw [if_neg h1] at hu; rw [if_neg (by omega)]; exact hu
 have Zn : ∀ (hs : ∀ x ∈ ls, x.length = sz), ∀ x ∈ ls.set i (kP cs j m), x.length = sz := fun hs x hx => by
  rcases List.mem_or_eq_of_mem_set hx with h1 | h1
  · exact hs x h1
  · have eK : cs.length = sz := hs cs (List.mem_of_getElem? hc)
    rw [h1, Qg (by omega), eK]
 have Zo : ∀ lo hi cz cc, h.ob.get b = some (.cells lo hi cz true cc) → (h.wr b (o0 + i * sz + j) m).ob.get b = some (.cells lo hi cz true (jo cc (o0 + i * sz + j) m)) := fun lo hi cz cc hg => by
  unfold AH.wr; rw [hg]; show (h.ob.set b _).get b = _; rw [NT.dc, if_pos rfl]
 cases H with
 | nil => simp at hi
 | un b' o' n lo dS cc ls hn hb hg h1 h2 hr hs =>
  cases e1
  have gS : h.can b (o0 + i * sz + j) m.length := ⟨lo, dS, ty, cc, hg, by omega, by rw [hn] at h2; omega⟩
  refine ⟨rfl, gS, .un b o0 n0 lo dS _ _ (by simp [hn]) hb (Zo _ _ _ _ hg) h1 h2 (fun q u hu => ?_) (Zn hs)⟩
  rw [AH.yD gS (Nat.le_refl _)]
  have := fl hs q u hu
  split at this
  · rw [if_pos (by omega)]; rw [show o0 + q - (o0 + i * sz + j) = q - (i * sz + j) by omega]; exact this
  · rw [if_neg (by omega)]; exact hr q u this
 | kn b' o' n cap lo dS cz cc ls hn hb oS hg h1 h2 hr hs =>
  cases e1
  have : ls.length * sz ≤ Zm * sz := Nat.mul_le_mul_right _ (by omega)
  have gS : h.can b (o0 + i * sz + j) m.length := ⟨lo, dS, cz, cc, hg, by omega, by omega⟩
  refine ⟨rfl, gS, .kn b o0 n0 Zm lo dS cz _ _ (by simp [hn]) hb oS (Zo _ _ _ _ hg) h1 h2 (fun q u hu => ?_) (Zn hs)⟩
  rw [AH.yD gS (Nat.le_refl _)]
  have := fl hs q u hu
  split at this
  · rw [if_pos (by omega)]; rw [show o0 + q - (o0 + i * sz + j) = q - (i * sz + j) by omega]; exact this
  · rw [if_neg (by omega)]; exact hr q u this
theorem ei.lt {ty : TypeId} {sz : Nat} {v : Value} {ls : List (List Value)} (H : ei h ty sz v ls) (ok : h.Ok) : ∀ b ∈ ej v, b < h.nx := by
 cases H with
 | nil => intro b hb; simp [ej] at hb
 | un b o n lo hi c ls hn hb hg h1 h2 hr hs => intro b' cw; simp [ej] at cw; subst cw; exact AH.lt_of_get ok hg
 | kn b o n cap lo hi cz c ls hn hb hc hg h1 h2 hr hs => intro b' cw; simp [ej] at cw; subst cw; exact AH.lt_of_get ok hg
theorem Zp (v : Value) : (ej v).Nodup := by unfold ej; split <;> simp
theorem wi {ty : TypeId} {sz : Nat} {v : Value} {ls : List (List Value)} : (Ob.sl ty sz v ls).bA.Nodup := Zp v
theorem Sep.ua {ty : TypeId} {sz n : Nat} {v u : Value} {ls : List (List Value)} {i b o j : Nat} {cs : List Value} (m : List Value) (S : Sep c g h (.sl ty sz v ls :: Γ)) (E : wh v sz i b o) (hc : ls[i]? = some cs) (hm : cellsOf u = m) (hn : m.length = n) (ha : di m = true) (hj : j + n ≤ sz)
 (K : ∀ h', Sep c g h' (.sl ty sz v (ls.set i (kP cs j m)) :: Γ) → R undef h') : WP (.store n) [az b (o + j), u] h R := by
 subst hm; subst hn
 have H : ei h ty sz v ls := S.dT _ List.mem_cons_self
 obtain ⟨h1, h2, h3⟩ := H.wr E hc hj
 refine (Hb h2 rfl ha).2 (K _ ?_)
 refine S.change _ (AH.vG S.ok _ _ _) (by rw [AH.mz]; exact Nat.le_refl _) (fun f _ hf => AH.tt h (fun e => hf (by subst e; show f ∈ ej v; rw [h1]; simp))) h3 (Zp v) (fun b' cw => ⟨by rw [AH.mz]; exact H.lt S.ok b' cw, .inr cw⟩)
theorem Sep.Qh {ty : TypeId} {sz : Nat} {zero : List Value} {n : Int} {k1 k2 : IntKind} (S : Sep c g h Γ) (hn : (decide (0 ≤ n) && decide (n ≤ 65536)) = true) (hz : zero.length = sz) (ha : di zero = true) (K : ∀ v h', Sep c g h' (.sl ty sz v (List.replicate n.toNat zero) :: Γ) → R v h') :
 WP (.mkSlice ty sz zero) [.int k1 n, .int k2 n] h R := by
 rw [Bool.and_eq_true, decide_eq_true_eq, decide_eq_true_eq] at hn
 obtain ⟨i, rfl⟩ : ∃ i : Nat, n = i := ⟨n.toNat, by omega⟩
 rw [Int.toNat_natCast] at K
 have fV : ∀ k : Nat, di (List.replicate k zero).flatten = true := by
  intro k
  induction k with
  | zero => rfl
  | succ k ih =>
   rw [List.replicate_succ, List.flatten_cons]
   have app : ∀ (l m : List Value), di l = true → di m = true → di (l ++ m) = true := fun l m h1 h2 => by
    induction l with
    | nil => exact h2
    | cons v l Ot =>
     rw [tB, Bool.and_eq_true] at h1
     rw [List.cons_append, tB, Bool.and_eq_true]
     exact ⟨h1.1, Ot h1.2⟩
   exact app _ _ ha ih
 refine (ag3 (Nat.le_refl i) (by omega) hz (fV i)).2 (K _ _ ?_)
 have hlen : (List.replicate i zero).flatten.length = i * sz := by rw [o4 (sz := sz) (fun x hx => by rw [(List.mem_replicate.1 hx).2]; exact hz)]; simp
 refine S.add _ (AH.tr S.ok _ _) (Nat.le_succ _) (dv.new h _ _).get ?_ wi (fun b hb => by simp [Ob.bA, ej] at hb; subst hb; exact ⟨Nat.lt_succ_self _, Nat.le_refl _⟩)
 refine .kn h.nx 0 i i 0 (List.replicate i zero).flatten.length ty _ _ (by simp) (Nat.le_refl _) (by unfold aY; omega) (by show (h.ob.set h.nx _).get h.nx = _; rw [NT.dc, if_pos rfl]) (Nat.le_refl _) (by rw [hlen]; omega) ?_ (fun x hx => by rw [(List.mem_replicate.1 hx).2]; exact hz)
 exact AH.G6 h ty _
theorem Sep.qA {ty : TypeId} {n sz : Nat} {cells : List Value} {ps : List (Nat × Nat)} {vs : List Value} (ls : List (List Value)) (S : Sep c g h Γ) (hf : kQ cells ps vs = some ls.flatten) (hn : ls.length = n) (hu : n < 1000000) (hs : ∀ x ∈ ls, x.length = sz) (ha : di ls.flatten = true)
 (K : ∀ v h', Sep c g h' (.sl ty sz v ls :: Γ) → R v h') : WP (.buildSlice ty n cells ps) vs h R := by
 subst hn
 refine (ahc hf ha).2 (K _ _ ?_)
 refine S.add _ (AH.tr S.ok _ _) (Nat.le_succ _) (dv.new h _ _).get ?_ wi (fun b hb => by simp [Ob.bA, ej] at hb; subst hb; exact ⟨Nat.lt_succ_self _, Nat.le_refl _⟩)
 exact .kn h.nx 0 ls.length ls.length 0 ls.flatten.length ty _ ls rfl (Nat.le_refl _) (by unfold aY; omega) (by show (h.ob.set h.nx _).get h.nx = _; rw [NT.dc, if_pos rfl]) (Nat.le_refl _) (by rw [o4 hs]; omega) (AH.G6 h ty _) hs
theorem gP.src {sz : Nat} {x : Value} {xs : List (List Value)} (H : gP h sz x xs) (h0 : 0 < sz) (k : Nat → List Value → Bool) : lx h sz x k = k xs.length xs.flatten := by
 cases H with
 | nil => exact ag4 sz k
 | mk b o n cap _ hn hc hs hr =>
  subst hn
  cases xs with
  | nil => exact ag6 k
  | cons y l => exact ag5 hr (o4 hs) (Nat.mul_pos (by simp) h0) k
theorem Zq {b o lo hi at_ : Nat} {ty : TypeId} {rw : Bool} {cc : NT Value} {old xs : List Value} {h2 : AH} (hg2 : h2.ob.get b = some (.cells lo hi ty rw (jo cc at_ xs))) (e : at_ = o + old.length) (h1 : lo ≤ o) (OX : o + old.length + xs.length ≤ hi) (ho : ∀ q u, old[q]? = some u → cc.get (o + q) = some u) : h2.bU b o (old ++ xs) := by
 subst e
 intro q u hu
 have hq : q < (old ++ xs).length := (List.getElem?_eq_some_iff.1 hu).1
 rw [List.length_append] at hq
 unfold AH.rd
 rw [hg2]
 show (if lo ≤ o + q ∧ o + q + 1 ≤ hi then (jo cc (o + old.length) xs).get (o + q) else none) = some u
 rw [if_pos ⟨by omega, by omega⟩, vF]
 by_cases h : q < old.length
 · rw [if_neg (by omega)]
   rw [List.getElem?_append_left h] at hu
   exact ho q u hu
 · rw [if_pos ⟨by omega, by omega⟩]
   rw [List.getElem?_append_right (by omega)] at hu
   rw [show o + q - (o + old.length) = q - old.length by omega]; exact hu
theorem Zr {b o lo hi : Nat} {ty : TypeId} {rw : Bool} {cc : NT Value} {l : List Value} (hg : h.ob.get b = some (.cells lo hi ty rw cc)) (hr : h.bU b o l) : ∀ q u, l[q]? = some u → cc.get (o + q) = some u := fun q u hu => by
 obtain ⟨tv, dS, cz, ml, c', g1, _, _, g4⟩ := G7 (hr q u hu)
 rw [hg] at g1; cases g1; exact g4
theorem Qi {sz : Nat} {ls xs : List (List Value)} (hs : ∀ x ∈ ls, x.length = sz) (hx : ∀ x ∈ xs, x.length = sz) : ∀ x ∈ ls ++ xs, x.length = sz := fun x h => by
 rcases List.mem_append.1 h with h | h
 · exact hs x h
 · exact hx x h
theorem Zs {l m : List Value} (h1 : di l = true) (h2 : di m = true) : di (l ++ m) = true := by
 induction l with
 | nil => exact h2
 | cons v l ih =>
  rw [tB, Bool.and_eq_true] at h1
  rw [List.cons_append, tB, Bool.and_eq_true]
  exact ⟨h1.1, ih h1.2⟩
theorem gP.uO {sz : Nat} {x : Value} {xs : List (List Value)} (H : gP h sz x xs) : ∀ y ∈ xs, y.length = sz := by
 cases H with
 | nil => intro y hy; simp at hy
 | mk b o n cap ls hn hc hs hr => exact hs
theorem aiT {ty : TypeId} {sz n : Nat} {zero xs : List Value} {x : Value} (hx : ∀ k : Nat → List Value → Bool, lx h sz x k = k n xs) (h1 : 1 ≤ sz) (hz : zero.length = sz) (hn : 0 < n) {b o cap : Nat} {s : Option Nat} (hb : n ≤ 1048576) (hc : cap < n) (ha : di xs = true) :
 WP (.append ty sz zero) [.slice (some ⟨b, o, s⟩) 0 cap, x] h R ↔ R (fG h.nx 0 n (aY + sz)) (h.new ty xs) := dk fun k => by
 rw [vJ hx h1 hz]
 show (bif Nat.beq n 0 then k (.slice (some ⟨b, o, none⟩) 0 cap) h else fN (Nat.add 0 n) fun iB => iff (Nat.ble iB 1048576) (bif Nat.ble aY cap then _ else bif Nat.ble iB cap then _ else bif Nat.beq 0 0 then kj h ty xs (fun b' h => fN (Nat.add aY sz) fun cp => k (.slice (some ⟨b', 0, none⟩) iB cp) h) else _)) = _
 have e : Nat.ble (0 + n) 1048576 = true := by rw [Nat.ble_eq]; omega
 have e2 : Nat.ble aY cap = false := by
  have : ¬ aY ≤ cap := by unfold aY; omega
  cases hh : Nat.ble aY cap with
  | false => rfl
  | true => rw [Nat.ble_eq] at hh; exact absurd hh this
 have e3 : Nat.ble (0 + n) cap = false := by
  cases hh : Nat.ble (0 + n) cap with
  | false => rfl
  | true => rw [Nat.ble_eq] at hh; omega
 rw [fg (show n ≠ 0 by omega)]
 simp only [cond_false]
 rw [ch, show Nat.add 0 n = 0 + n from rfl, e, fF, e2, e3]
 show kj h ty xs _ = _
 rw [vH h ty ha, ch, Nat.zero_add]; rfl
theorem aiU {ty : TypeId} {sz n : Nat} {zero xs : List Value} {x : Value} (hx : ∀ k : Nat → List Value → Bool, lx h sz x k = k n xs) (h1 : 1 ≤ sz) (hz : zero.length = sz) (hn : 0 < n) {b o len cap : Nat} {s : Option Nat} (hb : len + n ≤ 1048576) (hc : len + n ≤ cap) (hu : cap < aY) (ha : di xs = true) (hw : h.can b (o + len * sz) xs.length) :
 WP (.append ty sz zero) [.slice (some ⟨b, o, s⟩) len cap, x] h R ↔ R (fG b o (len + n) cap) (h.wr b (o + len * sz) xs) := dk fun k => by
 rw [vJ hx h1 hz]
 show (bif Nat.beq n 0 then k (.slice (some ⟨b, o, none⟩) len cap) h else fN (Nat.add len n) fun iB => iff (Nat.ble iB 1048576) (bif Nat.ble aY cap then _ else bif Nat.ble iB cap then fN (Nat.add o (Nat.mul len sz)) (fun at_ => qd h b at_ xs fun h => k (.slice (some ⟨b, o, none⟩) iB cap) h) else _)) = _
 have e : Nat.ble (len + n) 1048576 = true := by rw [Nat.ble_eq]; omega
 have e2 : Nat.ble aY cap = false := by
  cases hh : Nat.ble aY cap with
  | false => rfl
  | true => rw [Nat.ble_eq] at hh; omega
 have e3 : Nat.ble (len + n) cap = true := by rw [Nat.ble_eq]; exact hc
 rw [fg (show n ≠ 0 by omega)]
 simp only [cond_false]
 rw [ch, show Nat.add len n = len + n from rfl, e, fF, e2, e3]
 simp only [cond_true, cond_false]
 rw [ch]
 show qd h b (o + len * sz) xs _ = _
 rw [Ox hw ha]
theorem Sep.app {ty : TypeId} {sz : Nat} {zero : List Value} {s x : Value} {ls xs : List (List Value)} (S : Sep c g h (.sl ty sz s ls :: Γ)) (X : gP h sz x xs) (hb : decide (ls.length + xs.length ≤ 1048576) = true) (h0 : 0 < sz) (hz : zero.length = sz) (ha : di xs.flatten = true) (hal : di ls.flatten = true)
 (K : ∀ s' h', Sep c g h' (.sl ty sz s' (ls ++ xs) :: Γ) → R s' h') : WP (.append ty sz zero) [s, x] h R := by
 rw [decide_eq_true_eq] at hb
 have ub := X.src h0
 have ki := X.uO
 have H : ei h ty sz s ls := S.dT _ List.mem_cons_self
 have Qj : xs.flatten.length = xs.length * sz := o4 ki
 cases xs with
 | nil =>
  cases H with
  | nil => exact (ag7 ub h0 hz).2 (K _ _ (by simpa using S))
  | un b o n lo hi cc ls hn wj hg h1 h2 hr hs => exact (XN ub h0 hz).2 (K _ _ (by simpa using S))
  | kn b o n cap lo hi cz cc ls hn wj oS hg h1 h2 hr hs => exact (XN ub h0 hz).2 (K _ _ (by simpa using S))
 | cons y xs =>
  have oc : 0 < (y :: xs).length := by simp
  generalize y :: xs = xs at *
  have aiV : ∀ (all : List (List Value)), all.length < aY → (∀ x ∈ all, x.length = sz) → ei (h.new ty all.flatten) ty sz (fG h.nx 0 all.length (aY + sz)) all := fun all hu hs => by
   refine .un h.nx 0 all.length 0 all.flatten.length _ all rfl hu (by show (h.ob.set h.nx _).get h.nx = _; rw [NT.dc, if_pos rfl]) (Nat.le_refl _) ?_ (AH.G6 h ty _) hs
   rw [o4 hs]; omega
  have aob : 1048576 < aY := by unfold aY; omega
  have fresh : ∀ (all : List (List Value)), all.length < aY → (∀ x ∈ all, x.length = sz) → Sep c g (h.new ty all.flatten) (.sl ty sz (fG h.nx 0 all.length (aY + sz)) all :: Γ) := fun all hu hs =>
   S.change _ (AH.tr S.ok _ _) (Nat.le_succ _) (fun f hf _ => (dv.new h ty _).get f hf) (aiV all hu hs) wi (fun b hb => by simp [Ob.bA, ej] at hb; subst hb; exact ⟨Nat.lt_succ_self _, .inl (Nat.le_refl _)⟩)
  cases H with
  | nil =>
   refine (ag8 ub h0 hz oc (by simpa using hb) ha).2 (K _ _ ?_)
   exact fresh xs (by simp at hb; omega) ki
  | un b o n lo hi cc ls hn wj hg h1 h2 hr hs =>
   subst hn
   refine (ag9 ub h0 hz oc hb ha hg h1 h2).2 (K _ _ ?_)
   have bW := AH.lt_of_get S.ok hg
   have Ct : (h.grown b o ty cc (o + ls.length * sz) (o + (ls.length + xs.length) * sz) xs.flatten).ob.get h.nx = some (.cells o (o + (ls.length + xs.length) * sz) ty true (jo cc (o + ls.length * sz) xs.flatten)) := by
    show ((h.kill b).er _).ob.get h.nx = _
    rw [AH.qo, if_pos (show h.nx = (h.kill b).nx from rfl)]
   refine S.change _ (AH.yF (AH.XL S.ok b) _) (Nat.le_succ _) (fun f hf dC => ?_) ?_ wi (fun b' cw => by simp [Ob.bA, ej] at cw; subst cw; exact ⟨Nat.lt_succ_self _, .inl (Nat.le_refl _)⟩)
   · have hfb : f ≠ b := fun e => dC (by rw [e]; simp [Ob.bA, ej])
     show ((h.kill b).er _).ob.get f = _
     rw [AH.qo, if_neg (show ¬ f = (h.kill b).nx from fun e => by have e' : f = h.nx := e; omega), AH.OW, if_neg hfb]
   · refine .un h.nx o (ls.length + xs.length) o (o + (ls.length + xs.length) * sz) _ (ls ++ xs) (by simp) (by omega) Ct (Nat.le_refl _) (Nat.le_refl _) ?_ (Qi hs ki)
     rw [List.flatten_append]
     exact Zq Ct (by rw [o4 hs]) (Nat.le_refl _) (by rw [o4 hs, Qj, Nat.add_mul]; omega) (Zr hg hr)
  | kn b o n cap lo hi cz cc ls hn wj oS hg h1 h2 hr hs =>
   subst hn
   by_cases nv : ls.length + xs.length ≤ cap
   · have hmul : (ls.length + xs.length) * sz ≤ cap * sz := Nat.mul_le_mul_right _ nv
     rw [Nat.add_mul] at hmul
     have hw : h.can b (o + ls.length * sz) xs.flatten.length := ⟨lo, hi, cz, cc, hg, by omega, by rw [Qj]; omega⟩
     refine (aiU ub h0 hz oc hb nv oS ha hw).2 (K _ _ ?_)
     have Ct : (h.wr b (o + ls.length * sz) xs.flatten).ob.get b = some (.cells lo hi cz true (jo cc (o + ls.length * sz) xs.flatten)) := by
      unfold AH.wr; rw [hg]; show (h.ob.set b _).get b = _; rw [NT.dc, if_pos rfl]
     refine S.change _ (AH.vG S.ok _ _ _) (by rw [AH.mz]; exact Nat.le_refl _) (fun f _ hf => AH.tt h (fun e => hf (by rw [e]; simp [Ob.bA, ej]))) ?_ wi (fun b' cw => by simp [Ob.bA, ej] at cw; subst cw; exact ⟨by rw [AH.mz]; exact AH.lt_of_get S.ok hg, .inr (by simp [Ob.bA, ej])⟩)
     refine .kn b o (ls.length + xs.length) cap lo hi cz _ (ls ++ xs) (by simp) nv oS Ct h1 h2 ?_ (Qi hs ki)
     rw [List.flatten_append]
     exact Zq Ct (by rw [o4 hs]) h1 (by rw [o4 hs, Qj]; omega) (Zr hg hr)
   · have oL := hr
     have Qk := fresh (ls ++ xs) (by simp; omega) (Qi hs ki)
     rw [List.flatten_append, List.length_append] at Qk
     cases ls with
     | nil =>
      have : WP (.append ty sz zero) [fG b o 0 cap, x] h R := (aiT ub h0 hz oc (by simpa using hb) (by simp at nv; omega) ha).2 (K _ _ (by simpa using Qk))
      simpa using this
     | cons z ls =>
      exact (aha ub h0 hz oc hb (by omega) (Zs hal ha) (by simp) hr (o4 hs)).2 (K _ _ Qk)
def Cu {α : Type} (l : List α) (a b : Int) : Option (List α) := gu (decide (0 ≤ a) && decide (a ≤ b) && decide (b ≤ (l.length : Int))) (some ((l.take b.toNat).drop a.toNat))
theorem aiW {α : Type} {l m : List α} {a b : Int} (h : Cu l a b = some m) : ∃ i j : Nat, a = i ∧ b = j ∧ i ≤ j ∧ j ≤ l.length ∧ m = (l.take j).drop i := by
 obtain ⟨h1, h2⟩ := mD h
 simp only [Bool.and_eq_true, decide_eq_true_eq] at h1
 cases h2
 exact ⟨a.toNat, b.toNat, by omega, by omega, by omega, by omega, rfl⟩
def uc (sz : Nat) (v : Value) (i j : Nat) : Value := match v with
 | .slice (some a) n cap => if cap < aY then (if cap = i then .slice (some ⟨a.block, a.off, none⟩) (j - i) 0 else .slice (some ⟨a.block, a.off + i * sz, none⟩) (j - i) (cap - i)) else .slice (some ⟨a.block, a.off + i * sz, none⟩) (j - i) cap
 | v => v
theorem Zt {sz : Nat} {b o n cap i j : Nat} (hc : Y2 sz n cap) (yZ : i ≤ j) (hj : j ≤ n) (lo hi : Bool) {vs : List Value} (hl : lo = false → i = 0) (hh : hi = false → j = n) {k1 k2 : IntKind} (hv : vs = (if lo then [.int k1 (i : Int)] else []) ++ (if hi then [.int k2 (j : Int)] else [])) (K : R (uc sz (fG b o n cap) i j) h) :
    WP (.slice sz lo hi false) (fG b o n cap :: vs) h R := by
  have key : ∀ k : KV, (iff (true && Nat.ble i j && Nat.ble j cap && (Nat.ble j n || !(Nat.ble aY cap)) && true && (bif Nat.ble aY cap then Nat.beq cap (Nat.add aY sz) else true)) (rD sz i j cap cap false b o fun v => k v h)) = k (uc sz (fG b o n cap) i j) h := fun k => by
    obtain ⟨hn, hc⟩ := hc
    rcases hc with ⟨h1, h2⟩ | h1
    · have e1 : Nat.ble aY cap = false := by
        cases hh : Nat.ble aY cap with
        | false => rfl
        | true => rw [Nat.ble_eq] at hh; omega
      have e2 : (true && Nat.ble i j && Nat.ble j cap && (Nat.ble j n || !(Nat.ble aY cap)) && true && (bif Nat.ble aY cap then Nat.beq cap (Nat.add aY sz) else true)) = true := by
        rw [e1]; simp only [Bool.and_eq_true, Nat.ble_eq, Bool.or_eq_true, Bool.not_false, cond_false]; exact ⟨⟨⟨⟨⟨trivial, yZ⟩, by omega⟩, .inl hj⟩, trivial⟩, trivial⟩
      rw [e2, fF]
      unfold rD
      rw [ch, e1]
      show iff (Nat.ble (Nat.succ cap) aY) _ = _
      have e3 : Nat.ble (Nat.succ cap) aY = true := by rw [Nat.ble_eq]; exact h2
      rw [e3, fF]
      show _ = k (if cap < aY then (if cap = i then .slice (some ⟨b, o, none⟩) (j - i) 0 else .slice (some ⟨b, o + i * sz, none⟩) (j - i) (cap - i)) else .slice (some ⟨b, o + i * sz, none⟩) (j - i) cap) h
      rw [if_pos h2]
      by_cases jX : cap = i
      · rw [if_pos jX, kG jX]; rfl
      · rw [if_neg jX, fg jX]
        simp only [cond_false]
        rw [ch, ch]; rfl
    · subst h1
      have e1 : Nat.ble aY (aY + sz) = true := by rw [Nat.ble_eq]; omega
      have e4 : Nat.beq (aY + sz) (Nat.add aY sz) = true := by rw [Nat.beq_eq]; rfl
      have e2 : (true && Nat.ble i j && Nat.ble j (aY + sz) && (Nat.ble j n || !(Nat.ble aY (aY + sz))) && true && (bif Nat.ble aY (aY + sz) then Nat.beq (aY + sz) (Nat.add aY sz) else true)) = true := by
        rw [e1, e4]; simp only [Bool.and_eq_true, Nat.ble_eq, Bool.or_eq_true, Bool.not_true, cond_true]; exact ⟨⟨⟨⟨⟨trivial, yZ⟩, by omega⟩, .inl hj⟩, trivial⟩, trivial⟩
      rw [e2, fF]
      unfold rD
      rw [ch, e1]
      simp only [Bool.not_false, Bool.and_true, cond_true]
      rw [ch]
      show _ = k (if aY + sz < aY then _ else .slice (some ⟨b, o + i * sz, none⟩) (j - i) (aY + sz)) h
      rw [if_neg (by omega)]; rfl
  subst hv
  cases lo <;> cases hi
  · have hl := hl rfl; have hh := hh rfl; subst hl; subst hh
    exact (dk (p := .slice sz false false false) (vs := [fG b o j cap]) (v := uc sz (fG b o j cap) 0 j) (h' := h) (h := h) key).2 K
  · have hl := hl rfl; subst hl
    exact (dk (p := .slice sz false true false) (vs := [fG b o n cap, .int k2 (j : Int)]) (v := uc sz (fG b o n cap) 0 j) (h' := h) (h := h) key).2 K
  · have hh := hh rfl; subst hh
    exact (dk (p := .slice sz true false false) (vs := [fG b o j cap, .int k1 (i : Int)]) (v := uc sz (fG b o j cap) i j) (h' := h) (h := h) key).2 K
  · exact (dk (p := .slice sz true true false) (vs := [fG b o n cap, .int k1 (i : Int), .int k2 (j : Int)]) (v := uc sz (fG b o n cap) i j) (h' := h) (h := h) key).2 K
theorem ei.cut {ty : TypeId} {sz : Nat} {v : Value} {ls : List (List Value)} (H : ei h ty sz v ls) {i j : Nat} (yZ : i ≤ j) (hj : j ≤ ls.length) (lo hi : Bool) (hl : lo = false → i = 0) (hh : hi = false → j = ls.length) {k1 k2 : IntKind} {vs : List Value} (hv : vs = (if lo then [.int k1 (i : Int)] else []) ++ (if hi then [.int k2 (j : Int)] else [])) :
 ∃ v', ei h ty sz v' ((ls.take j).drop i) ∧ ej v' = ej v ∧ ∀ (R : Value → AH → Prop), R v' h → WP (.slice sz lo hi false) (v :: vs) h R := by
 cases H with
 | nil =>
  have hj0 : j = 0 := by simpa using hj
  have hi0 : i = 0 := by omega
  subst hj0; subst hi0
  refine ⟨cH, .nil, rfl, fun R K => ?_⟩
  subst hv
  cases lo <;> cases hi <;> exact fun k hk => hk _ _ K
 | un b o n tv dS cc ls hn wj hg h1 h2 hr hs =>
  subst hn
  refine ⟨uc sz (fG b o ls.length (aY + sz)) i j, ?_, ?_, fun R K => Zt ⟨wj, .inr rfl⟩ yZ hj lo hi hl hh hv K⟩
  · show ei h ty sz (if aY + sz < aY then _ else .slice (some ⟨b, o + i * sz, none⟩) (j - i) (aY + sz)) _
    rw [if_neg (by omega)]
    have m1 : i * sz ≤ j * sz := Nat.mul_le_mul_right _ yZ
    have m2 : j * sz ≤ ls.length * sz := Nat.mul_le_mul_right _ hj
    refine .un b _ _ tv dS cc _ (by simp; omega) (by omega) hg (by omega) (by rw [Nat.sub_mul]; omega) ?_ (fun x hx => hs x (List.mem_of_mem_take (List.mem_of_mem_drop hx)))
    rw [P4 i (fun x hx => hs x (List.mem_of_mem_take hx)), P5 j hs]
    exact P7 _ (P6 _ hr)
  · show ej (if aY + sz < aY then _ else .slice (some ⟨b, o + i * sz, none⟩) (j - i) (aY + sz)) = _
    rw [if_neg (by omega)]; rfl
 | kn b o n cap tv dS cz cc ls hn wj oS hg h1 h2 hr hs =>
  subst hn
  refine ⟨uc sz (fG b o ls.length cap) i j, ?_, ?_, fun R K => Zt ⟨by omega, .inl ⟨wj, oS⟩⟩ yZ hj lo hi hl hh hv K⟩
  · show ei h ty sz (if cap < aY then (if cap = i then .slice (some ⟨b, o, none⟩) (j - i) 0 else .slice (some ⟨b, o + i * sz, none⟩) (j - i) (cap - i)) else .slice (some ⟨b, o + i * sz, none⟩) (j - i) cap) _
    rw [if_pos oS]
    have m1 : i * sz ≤ cap * sz := Nat.mul_le_mul_right _ (by omega)
    by_cases jX : cap = i
    · rw [if_pos jX]
      have : j = i := by omega
      subst this
      have e : (ls.take j).drop j = [] := List.drop_of_length_le (by rw [List.length_take]; omega)
      rw [e]
      exact .kn b o _ 0 tv dS cz cc [] (by simp) (by omega) (by omega) hg h1 (by omega) (AH.Oo _ _ _) (by simp)
    · rw [if_neg jX]
      refine .kn b _ _ _ tv dS cz cc _ (by simp; omega) (by omega) (by omega) hg (by omega) (by rw [Nat.sub_mul]; omega) ?_ (fun x hx => hs x (List.mem_of_mem_take (List.mem_of_mem_drop hx)))
      rw [P4 i (fun x hx => hs x (List.mem_of_mem_take hx)), P5 j hs]
      exact P7 _ (P6 _ hr)
  · show ej (if cap < aY then (if cap = i then .slice (some ⟨b, o, none⟩) (j - i) 0 else .slice (some ⟨b, o + i * sz, none⟩) (j - i) (cap - i)) else .slice (some ⟨b, o + i * sz, none⟩) (j - i) cap) = _
    by_cases h5 : cap = i
    · rw [if_pos oS, if_pos h5]; rfl
    · rw [if_pos oS, if_neg h5]; rfl
end
end
end Go.Ve
namespace Go.Ve
open Go.RowKit
open Classical
noncomputable section
def One {α : Type} (rep : ie α) (n : Nat) : Prop := ∀ g vs x, rep g vs x → vs.length = n ∧ di vs = true
theorem kz (k : IntKind) : One (rI k) 1 := fun _ vs x h => by cases h; exact ⟨rfl, rfl⟩
theorem aa {v : Value} {l : List Value} (h1 : fb v = true) (h2 : di l = true) : di (v :: l) = true := by rw [tB, h1, h2]; rfl
theorem kA {α : Type} {rep : ie α} {n : Nat} (H : One rep n) {g : AH} {ls : List (List Value)} {l : List α} (A : au (rep g) ls l) : di ls.flatten = true := by
 induction ls generalizing l with
 | nil => rfl
 | cons x ls ih =>
  cases l with
  | nil => have := A.1; simp at this
  | cons y l =>
   rw [List.flatten_cons]
   refine Zs (H g x y (A.2 0 x y rfl rfl)).2 (ih (l := l) ⟨by simpa using A.1, fun i a b ha hb => A.2 (i + 1) a b (by simpa using ha) (by simpa using hb)⟩)
def bytesOf (l : List UInt8) : ByteArray := ⟨⟨l⟩⟩
theorem qB {sz : Nat} : ∀ x ∈ ([] : List (List Value)), x.length = sz := fun x h => by simp at h
theorem qC {sz : Nat} {y : List Value} {l : List (List Value)} (h1 : y.length = sz) (h2 : ∀ x ∈ l, x.length = sz) : ∀ x ∈ y :: l, x.length = sz := fun x h => by
 rcases List.mem_cons.1 h with rfl | h
 · exact h1
 · exact h2 x h
theorem cL {l m l2 r : List Value} {o n : Nat} {ps : List (Nat × Nat)} {v : Value} {vs : List Value} (h1 : cellsOf v = m) (h2 : m.length = n) (h3 : o + n ≤ l.length) (h4 : kP l o m = l2) (H : kQ l2 ps vs = some r) : kQ l ((o, n) :: ps) (v :: vs) = some r := by
 subst h1; subst h4
 unfold kQ
 rw [if_pos ⟨h2, h3⟩]; exact H
theorem Ib {k : IntKind} {n : Int} : rG (.int k n) (.int k n) = true := by
 show (bif fM k k then kN n n else false) = true
 rw [oT, yC]; simp
theorem aiX {b o : Nat} : rG (az b o) (az b o) = true := by
 show (Nat.beq b b && Nat.beq o o) = true
 rw [Nat.beq_refl, Nat.beq_refl]; rfl
theorem jF {k : IntKind} {n : Int} : qf (.int k n) (.int k n) = true := by
 show (bif fM k k then kN n n else false) = true
 rw [oT, yC]; simp
theorem tX {s : ByteArray} : qf (.string s) (.string s) = true := by
 show jZ s.data.toList s.data.toList = true
 rw [XC]; simp
theorem gP.Zu {g : AH} {sz : Nat} {v : Value} {ls : List (List Value)} (H : gP g sz v ls) : rG v v = true := by
 cases H with
 | nil => rfl
 | mk b o n cap ls hn hc hs hr =>
  show (Nat.beq b b && Nat.beq o o && Nat.beq n n && Nat.beq cap cap) = true
  rw [Nat.beq_refl, Nat.beq_refl, Nat.beq_refl, Nat.beq_refl]; rfl
theorem gP.qy {g : AH} {sz : Nat} {v : Value} {ls : List (List Value)} (H : gP g sz v ls) : qf v v = true := by
 have := H.Zu
 cases H with
 | nil => rfl
 | mk b o n cap ls hn hc hs hr => exact this
theorem ae.qy {α : Type} {rep : ie α} {sz : Nat} {g : AH} {v : Value} {l : List α} (F : ae rep sz g v l) : qf v v = true := by obtain ⟨ls, h, _⟩ := F; exact h.qy
theorem yT : n8 [] [] = true := rfl
theorem eL {v : Value} {l : List Value} (h1 : qf v v = true) (h2 : n8 l l = true) : n8 (v :: l) (v :: l) = true := by
 show (qf v v && n8 l l) = true
 rw [h1, h2]; rfl
theorem yS {l : List Value} (h : n8 l l = true) : rG (.agg ⟨l⟩) (.agg ⟨l⟩) = true := h
theorem vX {c want : Bool} {A : W → W} {K : W} {h : AH} (e : c = want) (H : A K h) : gk (.bool c) want A K h := by
 subst e; unfold gk; cases c <;> exact H
theorem vW {c want : Bool} {A : W → W} {K : W} {h : AH} (e : c ≠ want) (H : K h) : gk (.bool c) want A K h := by
 unfold gk; cases c <;> cases want <;> first | exact absurd rfl e | exact H
theorem iN {want : Bool} {A : (Value → W) → W} {K : Value → W} {h : AH} (H : K undef h) : gd undef want A K h := H
theorem Il {A B : W} {h : AH} (H : A h) : br (.bool true) A B h := H
theorem wk {A B : W} {h : AH} (H : B h) : br (.bool false) A B h := H
section
variable {c : Cx} {g h g' h' : AH} {Γ : List Ob} {R : Value → AH → Prop}
theorem y0 {α : Type} {len : Nat} (l : List α) (f : α → Value) (hl : l.length = len) {n : Int} {x : α} {kd : IntKind} (hx : ix l n = some x) (K : R (f x) h) : WP (.qM len) [.agg ⟨l.map f⟩, .int kd n] h R := by
 obtain ⟨i, rfl, hi, hx⟩ := yV hx
 exact (agM (by omega) (by rw [List.getElem?_map, hx]; rfl)).2 K
theorem Ql {α : Type} {len sz b o : Nat} {l : List α} {n : Int} {x : α} {kd : IntKind} (hx : ix l n = some x) (hl : l.length = len) (K : R (az b (o + n.toNat * sz)) h) : WP (.xE len sz) [az b o, .int kd n] h R := by
 obtain ⟨i, rfl, hi, hx⟩ := yV hx
 exact (agL (by omega)).2 K
theorem Qm {α : Type} (pre : List Value) (l : List α) (f : α → Value) (post : List Value) {n : Int} {x : α} (hx : ix l n = some x) : (pre ++ (l.map f ++ post))[pre.length + n.toNat * 1]? = some (f x) := by
 obtain ⟨i, rfl, hi, hx⟩ := yV hx
 rw [List.getElem?_append_right (by omega), List.getElem?_append_left (by simp; omega), List.getElem?_map, Int.toNat_natCast, Nat.mul_one, Nat.add_sub_cancel_left, hx]; rfl
theorem Sep.oi {ty : TypeId} {sz : Nat} {v : Value} {ls : List (List Value)} (S : Sep c g h Γ) (k : Nat) (hk : Γ[k]? = some (.sl ty sz v ls)) : fb v = true := ei.one (S.dT _ (List.mem_of_getElem? hk))
theorem Sep.rd {ty : TypeId} {sz : Nat} {v : Value} {ls : List (List Value)} (S : Sep c g h Γ) (k : Nat) (hk : Γ[k]? = some (.sl ty sz v ls)) : gP h sz v ls := ei.read (S.dT _ (List.mem_of_getElem? hk))
theorem Sep.bY (S : Sep c g h Γ) (S' : Sep ⟨g, h, []⟩ g' h' []) : Sep c g h' Γ :=
 S.call ((Sep.start S.sub S.ok).back S' S'.bX)
theorem Sep.take (S : Sep c g h Γ) (n : Nat) : Sep c g h (Γ.take n) := by
 have ar : (Γ.take n).Sublist Γ := List.take_sublist n Γ
 have hf : ((Γ.take n).flatMap Ob.bA).Sublist (Γ.flatMap Ob.bA) := by
  have e : Γ.flatMap Ob.bA = (Γ.take n).flatMap Ob.bA ++ (Γ.drop n).flatMap Ob.bA := by rw [← List.flatMap_append, List.take_append_drop]
  rw [e]; exact List.sublist_append_left _ _
 exact ⟨S.bX, S.sub, S.ok, S.nx, S.old, fun x hx => S.dT x (ar.subset hx), hf.nodup S.nd, fun b hb => S.own b (hf.subset hb)⟩
theorem dU {ss : List Nat} {vs : List Value} (l : List Value) (hs : da ss vs = true) (e : vs.flatMap cellsOf = l) (K : R (.agg ⟨l⟩) h) : WP (.de ss) vs h R := (Hn hs).2 (by rw [e]; exact K)
theorem aiY : nj [] [] [] = some true := rfl
theorem Zv {k : IntKind} {x y : Int} {ks : List Nat} {l m : List Value} {b : Bool} (H : nj ks l m = some b) : nj (0 :: ks) (.int k x :: l) (.int k y :: m) = some (decide (x = y) && b) := by
 have e : lh 0 (.int k x) (.int k y) = some (decide (x = y)) := by
  show (bif fM k k then some (kN x y) else none) = _
  rw [oT, yC]; rfl
 unfold nj
 rw [e, H]
 cases decide (x = y) <;> rfl
theorem aiZ {ks : List Nat} {l m : List Value} {b ng : Bool} {R : Value → AH → Prop} (e : nj ks l m = some b) : WP (.z7 ng ks) [.agg ⟨l⟩, .agg ⟨m⟩] h R ↔ R (.bool (b != ng)) h := dk fun k => by
 show qe (nj ks l m) ng (fun v => k v h) = _
 rw [e]
 show fB (bif ng then !b else b) (fun b => k (.bool b) h) = _
 rw [iA]; cases b <;> cases ng <;> rfl
theorem Sep.cut {α : Type} {rep : ie α} {ty : TypeId} {sz : Nat} {v : Value} {ls : List (List Value)} {l : List α} {i j : Nat} {k1 k2 : IntKind} {vs : List Value} (S : Sep c g h (.sl ty sz v ls :: Γ)) (A : au (rep g) ls l) (h1 : i ≤ j) (h2 : j ≤ l.length) (lo hi : Bool) (hl : lo = false → i = 0) (hh : hi = false → j = l.length)
 (hv : vs = (if lo then [.int k1 (i : Int)] else []) ++ (if hi then [.int k2 (j : Int)] else [])) (K : ∀ v' sc, Sep c g h (.sl ty sz v' sc :: Γ) → au (rep g) sc ((l.take j).drop i) → R v' h) : WP (.slice sz lo hi false) (v :: vs) h R := by
 have H : ei h ty sz v ls := S.dT _ List.mem_cons_self
 obtain ⟨v', h5, h6, h7⟩ := H.cut (k1 := k1) (k2 := k2) h1 (by rw [A.1]; exact h2) lo hi hl (fun e => (hh e).trans A.1.symm) hv
 refine h7 R (K v' _ ?_ ((A.take j).drop i))
 refine S.change _ S.ok (Nat.le_refl _) (fun _ _ _ => rfl) h5 wi (fun b hb => ?_)
 have cw : b ∈ ej v := by have lQ : b ∈ ej v' := hb; rwa [h6] at lQ
 exact ⟨H.lt S.ok b cw, .inr cw⟩
theorem Sep.ai0 {α : Type} {rep : ie α} {ty : TypeId} {sz : Nat} {v : Value} {ls : List (List Value)} {l m : List α} {b : Int} {k2 : IntKind} (S : Sep c g h (.sl ty sz v ls :: Γ)) (A : au (rep g) ls l) (hx : Cu l 0 b = some m) (K : ∀ v' sc, Sep c g h (.sl ty sz v' sc :: Γ) → au (rep g) sc m → R v' h) : WP (.slice sz false true false) [v, .int k2 b] h R := by
 obtain ⟨i, j, e, rfl, h1, h2, rfl⟩ := aiW hx
 exact S.cut (k1 := .i64) A h1 h2 false true (fun _ => by omega) (by simp) rfl K
end
end
end Go.Ve
namespace Go.Ve
open Go.RowKit
open Classical
noncomputable section
inductive Fl where
 | go
 | ret
 | ex (n : Nat)
def Fl.pd : Fl → Option Code
 | .go => none
 | .ret => some .ret
 | .ex n => some (.exit n)
def Fl.st : Fl → LoopState
 | .go => .ready
 | _ => .done
def Fl.on : Fl → Bool
 | .go => true
 | _ => false
def Cv {ρ : Type} (f : Fl) (N Rt : Option ρ) (X : Nat → Option ρ) : Option ρ := match f with
 | .go => N
 | .ret => Rt
 | .ex n => X n
theorem Qn {ρ : Type} {N Rt : Option ρ} {X : Nat → Option ρ} {r : ρ} (h : Cv .go N Rt X = some r) : N = some r := h
theorem Qo {ρ : Type} {N Rt : Option ρ} {X : Nat → Option ρ} {r : ρ} (h : Cv .ret N Rt X = some r) : Rt = some r := h
theorem Qp {N Rt : W} {X : List (Nat × W)} {h : AH} (H : N h) : sE Fl.go.pd N Rt X h := H
theorem Qq {N Rt : W} {X : List (Nat × W)} {h : AH} (H : Rt h) : sE Fl.ret.pd N Rt X h := H
def oj {α σ : Type} (b : σ → α → Option (σ × Fl)) : List α → σ → Option (σ × Fl)
 | [], s => some (s, .go)
 | x :: l, s => (b s x).bind fun q => match q.2 with
  | .go => oj b l q.1
  | f => some (q.1, f)
def sd {α : Type} (P : Program) (w0 : World) (g : AH) (fv : Value) (c : α → List Value) (l : List α) : Prop :=
 fb fv = true ∧ ∃ id first bR, fv = .func (.func id) ⟨first⟩ ⟨bR⟩ ∧ ∀ (yv : Value) (Inv : Nat → AH → AH → Prop) (Stop : AH → Prop) (Q : CR → AH → Prop) (g1 h : AH), Sub g g1 →
  (∀ i g h g' h', Inv i g h → Sep ⟨g, h, []⟩ g' h' [] → Inv i g' h') → (∀ i g h, Inv i g h → Sub g h ∧ h.Ok) →
  (∀ i x g h (E K : Value → W), l[i]? = some x → Inv i g h → (∀ g' h', Sub g g' → Inv (i + 1) g' h' → K (.bool true) h') → (∀ h', Stop h' → K (.bool false) h') → dy P w0 (yv :: c x) E K h) →
  Inv 0 g1 h → (∀ v g' h', Sub g1 g' → Inv l.length g' h' → Q (.ret v) h') → (∀ v h', Stop h' → Q (.ret v) h') → WF P w0 id (first ++ (yv :: bR)) h Q
theorem sd.mono {α : Type} {P : Program} {w0 : World} {g g' : AH} {fv : Value} {c : α → List Value} {l : List α} (H : sd P w0 g fv c l) (S : Sub g g') : sd P w0 g' fv c l := by
 obtain ⟨h0, id, first, bR, h1, h2⟩ := H
 exact ⟨h0, id, first, bR, h1, fun yv Inv Stop Q g1 h s => h2 yv Inv Stop Q g1 h (S.trans s)⟩
section
variable {c : Cx} {g h g' h' : AH} {Γ : List Ob} {R : Value → W}
theorem Sep.Im {n : Nat} {lo : LO} {st : LoopState} {pd : Option Code} (S : Sep c g h (.lp n lo st pd :: Γ)) (y7 : LoopState) (tz : Option Code) : Sep c g (h.lW n (lo y7 tz)) (.lp n lo y7 tz :: Γ) := by
 have H : h.ob.get n = some (lo st pd) := S.dT _ List.mem_cons_self
 have hn := AH.lt_of_get S.ok H
 refine S.change _ (AH.Hh S.ok hn _) (Nat.le_refl _) (fun f _ hf => ?_) ?_ (by simp [Ob.bA]) (fun b hb => by simp [Ob.bA] at hb; subst hb; exact ⟨hn, .inr (by simp [Ob.bA])⟩)
 · rw [AH.rT, if_neg (by simpa [Ob.bA] using hf)]
 · show (h.lW n (lo y7 tz)).ob.get n = _
   rw [AH.rT, if_pos rfl]
theorem Sep.qN {n : Nat} {lo : LO} {st : LoopState} {pd : Option Code} {K : W} (S : Sep c g h (.lp n lo st pd :: Γ)) (k : K h) : qN lo n K h := ⟨⟨st, pd, S.dT _ List.mem_cons_self⟩, k⟩
theorem Sep.mO {n : Nat} {lo : LO} {pd : Option Code} {K : W} (S : Sep c g h (.lp n lo .ready pd :: Γ)) (k : ∀ h', Sep c g h' (.lp n lo .busy pd :: Γ) → K h') : mO lo n K h := ⟨pd, S.dT _ List.mem_cons_self, k _ (S.Im _ _)⟩
theorem Sep.jx {n : Nat} {lo : LO} {st y7 : LoopState} {pd tz : Option Code} {b : Bool} (S : Sep c g h (.lp n lo st pd :: Γ)) (k : ∀ h', Sep c g h' (.lp n lo y7 tz :: Γ) → R (.bool b) h') : jx lo n y7 tz b R h := ⟨⟨st, pd, S.dT _ List.mem_cons_self⟩, k _ (S.Im _ _)⟩
theorem Sep.jb {K : W} : ∀ {d : List Nat} {h : AH}, Sep c g h (.ds d :: Γ) → (∀ h', Sep c g h' Γ → K h') → Go.Ve.jb d K h
 | [], h, S, k => k h S.drop
 | r :: d, h, S, k => by
  have H : ∀ x ∈ r :: d, h.ob.get x = some (.defs false) := S.dT _ List.mem_cons_self
  have hr := H r List.mem_cons_self
  have hn := AH.lt_of_get S.ok hr
  have nd : (r :: d).Nodup := by have := S.nd; rw [List.flatMap_cons] at this; exact (List.nodup_append.1 this).1
  refine ⟨hr, Sep.jb (d := d) (S.change _ (AH.Hh S.ok hn _) (Nat.le_refl _) (fun f _ hf => ?_) (fun x hx => ?_) (List.nodup_cons.1 nd).2 (fun b hb => ?_)) k⟩
  · rw [AH.rT, if_neg (fun e => hf (by subst e; exact List.mem_cons_self))]
  · rw [AH.rT, if_neg (fun e => by subst e; exact (List.nodup_cons.1 nd).1 hx)]; exact H x (List.mem_cons_of_mem _ hx)
  · have cw : b ∈ d := hb
    exact ⟨AH.lt_of_get S.ok (H b (List.mem_cons_of_mem _ cw)), .inr (List.mem_cons_of_mem _ cw)⟩
theorem Sep.Qr (S : Sep c g h Γ) : Sep c g h (.ds [] :: Γ) := S.add _ S.ok (Nat.le_refl _) (fun _ _ => rfl) (fun r hr => by simp at hr) (by simp [Ob.bA]) (fun b hb => by simp [Ob.bA] at hb)
theorem Qs {α σ : Type} {P : Program} {w0 : World} {fv : Value} {ca : α → List Value} {l : List α} {d : List Nat} {B : LO → Nat → List Value → (Value → W) → W} {E : Nat → Value → W} {K : Nat → Option Code → W} (bM : σ → α → Option (σ × Fl)) (D : σ → AH → AH → List Ob → Prop) {s0 : σ} {r : σ × Fl}
 (It : sd P w0 g fv ca l)
 (hD : ∀ s g h Γ g' h', D s g h Γ → Sub g g' → D s g' h' Γ)
 (S : Sep c g h (.ds d :: Γ)) (D0 : D s0 g h Γ) (M : oj bM l s0 = some r)
 (body : ∀ (lo : LO) (n q : Nat) (s : σ) (x : α) (s' : σ) (f : Fl) (R : Value → W) (g2 h2 : AH) (Γ2 : List Ob), Sub g g2 → Sep c g2 h2 (.lp n lo .ready none :: .ds (q :: d) :: Γ2) → D s g2 h2 Γ2 → bM s x = some (s', f) →
  (∀ g3 h3 Γ3, Sub g2 g3 → Sep c g3 h3 (.lp n lo f.st f.pd :: .ds (q :: d) :: Γ3) → D s' g3 h3 Γ3 → R (.bool f.on) h3) → B lo n (ca x) R h2)
 (fin : ∀ (q : Nat) (g2 h2 : AH) (Γ2 : List Ob), Sub g g2 → Sep c g2 h2 (.ds (q :: d) :: Γ2) → D r.1 g2 h2 Γ2 → K q r.2.pd h2) : xw P w0 fv B E K h := by
 obtain ⟨_, id, first, bR, rfl, It⟩ := It
 show OO P w0 id first bR B (E h.nx) (K h.nx) (h.er (.defs false))
 intro lo hB
 have S1 : Sep c g (h.er (.defs false)) (.ds (h.nx :: d) :: Γ) := by
  have H : ∀ x ∈ d, h.ob.get x = some (.defs false) := S.dT _ List.mem_cons_self
  have nd : d.Nodup := by have := S.nd; rw [List.flatMap_cons] at this; exact (List.nodup_append.1 this).1
  refine S.change _ (AH.yF S.ok _) (Nat.le_succ _) (fun f hf _ => (dv.er h _).get f hf) (fun x hx => ?_) ?_ (fun b hb => ?_)
  · rcases List.mem_cons.1 hx with rfl | hx
    · rw [AH.qo, if_pos rfl]
    · have := AH.lt_of_get S.ok (H x hx)
      rw [AH.qo, if_neg (by omega)]; exact H x hx
  · exact List.nodup_cons.2 ⟨fun hm => by have := AH.lt_of_get S.ok (H _ hm); omega, nd⟩
  · rcases List.mem_cons.1 hb with rfl | hb
    · exact ⟨Nat.lt_succ_self _, .inl (Nat.le_refl _)⟩
    · exact ⟨Nat.lt_succ_of_lt (AH.lt_of_get S.ok (H b hb)), .inr hb⟩
 have S2 : Sep c g ((h.er (.defs false)).er (lo .ready none)) (.lp (h.er (.defs false)).nx lo .ready none :: .ds (h.nx :: d) :: Γ) := by
  refine S1.add _ (AH.yF S1.ok _) (Nat.le_succ _) (dv.er _ _).get ?_ (by simp [Ob.bA]) (fun b hb => by simp [Ob.bA] at hb; subst hb; exact ⟨Nat.lt_succ_self _, Nat.le_refl _⟩)
  show ((h.er (.defs false)).er (lo .ready none)).ob.get _ = _
  rw [AH.qo, if_pos rfl]
 have D2 : D s0 g ((h.er (.defs false)).er (lo .ready none)) Γ := hD s0 g h Γ g _ D0 (.refl g)
 generalize hn : (h.er (.defs false)).nx = n at *
 generalize (h.er (.defs false)).er (lo .ready none) = h2 at *
 refine It _ (fun i g2 hh => ∃ s Γ2, Sub g g2 ∧ Sep c g2 hh (.lp n lo .ready none :: .ds (h.nx :: d) :: Γ2) ∧ D s g2 hh Γ2 ∧ oj bM (l.drop i) s = some r)
  (fun hh => ∃ g2 Γ2, Sub g g2 ∧ Sep c g2 hh (.lp n lo r.2.st r.2.pd :: .ds (h.nx :: d) :: Γ2) ∧ D r.1 g2 hh Γ2) _ g h2 (.refl g) ?_ ?_ ?_ ⟨s0, Γ, .refl _, S2, D2, by rw [List.drop_zero]; exact M⟩ ?_ ?_
 · rintro i g2 ha g3 hb ⟨s, Γ2, h1, h3, h4, h5⟩ S'
   exact ⟨s, Γ2, h1.trans S'.bX, h3.call S', hD s g2 ha Γ2 g3 hb h4 S'.bX, h5⟩
 · rintro i g2 ha ⟨s, Γ2, h1, h3, h4, h5⟩
   exact ⟨h3.sub, h3.ok⟩
 · rintro i x g2 ha E K' hx ⟨s, Γ2, h1, h3, h4, h5⟩ kt kf
   have hi : i < l.length := (List.getElem?_eq_some_iff.1 hx).1
   have hd : l.drop i = x :: l.drop (i + 1) := by
    rw [List.drop_eq_getElem_cons hi]; congr 1; rw [List.getElem?_eq_getElem hi] at hx; exact Option.some.inj hx
   rw [hd] at h5
   unfold oj at h5
   obtain ⟨⟨s', f⟩, h6, h7⟩ := bind_some h5
   refine WR.mono (fun rr hh hr => ?_) (hB n (ca x) K' ha (body lo n h.nx s x s' f K' g2 ha Γ2 h1 h3 h4 h6 fun g3 Aw Γ3 a1 a2 a3 => ?_))
   · cases rr with
     | ret v => exact hr
     | aP v => exact hr.elim
   · cases f with
     | go => exact kt g3 _ a1 ⟨s', Γ3, h1.trans a1, a2, a3, h7⟩
     | ret => cases h7; exact kf _ ⟨g3, Γ3, h1.trans a1, a2, a3⟩
     | ex m => cases h7; exact kf _ ⟨g3, Γ3, h1.trans a1, a2, a3⟩
 · rintro v g2 hh sg ⟨s, Γ2, h1, h3, h4, h5⟩
   rw [List.drop_length] at h5
   cases h5
   refine ⟨.ready, none, h3.dT _ List.mem_cons_self, rfl, ?_⟩
   exact fin h.nx g2 _ Γ2 h1 (h3.Im .exhausted none).drop (hD _ g2 hh Γ2 g2 _ h4 (.refl _))
 · rintro v hh ⟨g2, Γ2, h1, h3, h4⟩
   refine ⟨r.2.st, r.2.pd, h3.dT _ List.mem_cons_self, by cases r.2 <;> rfl, ?_⟩
   exact fin h.nx g2 _ Γ2 h1 (h3.Im .exhausted r.2.pd).drop (hD _ g2 hh Γ2 g2 _ h4 (.refl _))
end
end
end Go.Ve
namespace Go.Ve
open Go.RowKit
section
variable {c : Cx} {g h g' h' : AH} {Γ : List Ob} {o : Ob}
theorem Sep.f1 {a0 a1 : Ob} (S : Sep c g h (a0 :: a1 :: Γ)) : Sep c g h (a1 :: a0 :: Γ) := S.front 1 rfl rfl
theorem Sep.f2 {a0 a1 a2 : Ob} (S : Sep c g h (a0 :: a1 :: a2 :: Γ)) : Sep c g h (a2 :: a0 :: a1 :: Γ) := S.front 2 rfl rfl
theorem Sep.f3 {a0 a1 a2 a3 : Ob} (S : Sep c g h (a0 :: a1 :: a2 :: a3 :: Γ)) : Sep c g h (a3 :: a0 :: a1 :: a2 :: Γ) := S.front 3 rfl rfl
theorem Sep.f4 {a0 a1 a2 a3 a4 : Ob} (S : Sep c g h (a0 :: a1 :: a2 :: a3 :: a4 :: Γ)) : Sep c g h (a4 :: a0 :: a1 :: a2 :: a3 :: Γ) := S.front 4 rfl rfl
theorem Sep.f5 {a0 a1 a2 a3 a4 a5 : Ob} (S : Sep c g h (a0 :: a1 :: a2 :: a3 :: a4 :: a5 :: Γ)) : Sep c g h (a5 :: a0 :: a1 :: a2 :: a3 :: a4 :: Γ) := S.front 5 rfl rfl
theorem Sep.f6 {a0 a1 a2 a3 a4 a5 a6 : Ob} (S : Sep c g h (a0 :: a1 :: a2 :: a3 :: a4 :: a5 :: a6 :: Γ)) : Sep c g h (a6 :: a0 :: a1 :: a2 :: a3 :: a4 :: a5 :: Γ) := S.front 6 rfl rfl
theorem Sep.f7 {a0 a1 a2 a3 a4 a5 a6 a7 : Ob} (S : Sep c g h (a0 :: a1 :: a2 :: a3 :: a4 :: a5 :: a6 :: a7 :: Γ)) : Sep c g h (a7 :: a0 :: a1 :: a2 :: a3 :: a4 :: a5 :: a6 :: Γ) := S.front 7 rfl rfl
theorem Sep.f8 {a0 a1 a2 a3 a4 a5 a6 a7 a8 : Ob} (S : Sep c g h (a0 :: a1 :: a2 :: a3 :: a4 :: a5 :: a6 :: a7 :: a8 :: Γ)) : Sep c g h (a8 :: a0 :: a1 :: a2 :: a3 :: a4 :: a5 :: a6 :: a7 :: Γ) := S.front 8 rfl rfl
theorem Sep.f9 {a0 a1 a2 a3 a4 a5 a6 a7 a8 a9 : Ob} (S : Sep c g h (a0 :: a1 :: a2 :: a3 :: a4 :: a5 :: a6 :: a7 :: a8 :: a9 :: Γ)) : Sep c g h (a9 :: a0 :: a1 :: a2 :: a3 :: a4 :: a5 :: a6 :: a7 :: a8 :: Γ) := S.front 9 rfl rfl
theorem Sep.f10 {a0 a1 a2 a3 a4 a5 a6 a7 a8 a9 Y8 : Ob} (S : Sep c g h (a0 :: a1 :: a2 :: a3 :: a4 :: a5 :: a6 :: a7 :: a8 :: a9 :: Y8 :: Γ)) : Sep c g h (Y8 :: a0 :: a1 :: a2 :: a3 :: a4 :: a5 :: a6 :: a7 :: a8 :: a9 :: Γ) := S.front 10 rfl rfl
theorem Sep.t0 (S : Sep c g h Γ) : Sep c g h [] := S.bj
theorem Sep.t1 {a0 : Ob} (S : Sep c g h (a0 :: Γ)) : Sep c g h [a0] := S.take 1
theorem Sep.t2 {a0 a1 : Ob} (S : Sep c g h (a0 :: a1 :: Γ)) : Sep c g h [a0, a1] := S.take 2
theorem Sep.t3 {a0 a1 a2 : Ob} (S : Sep c g h (a0 :: a1 :: a2 :: Γ)) : Sep c g h [a0, a1, a2] := S.take 3
theorem Sep.t4 {a0 a1 a2 a3 : Ob} (S : Sep c g h (a0 :: a1 :: a2 :: a3 :: Γ)) : Sep c g h [a0, a1, a2, a3] := S.take 4
theorem Sep.t5 {a0 a1 a2 a3 a4 : Ob} (S : Sep c g h (a0 :: a1 :: a2 :: a3 :: a4 :: Γ)) : Sep c g h [a0, a1, a2, a3, a4] := S.take 5
theorem Sep.t6 {a0 a1 a2 a3 a4 a5 : Ob} (S : Sep c g h (a0 :: a1 :: a2 :: a3 :: a4 :: a5 :: Γ)) : Sep c g h [a0, a1, a2, a3, a4, a5] := S.take 6
theorem Sep.t8 {a0 a1 a2 a3 a4 a5 a6 a7 : Ob} (S : Sep c g h (a0 :: a1 :: a2 :: a3 :: a4 :: a5 :: a6 :: a7 :: Γ)) : Sep c g h [a0, a1, a2, a3, a4, a5, a6, a7] := S.take 8
theorem Sep.t10 {a0 a1 a2 a3 a4 a5 a6 a7 a8 a9 : Ob} (S : Sep c g h (a0 :: a1 :: a2 :: a3 :: a4 :: a5 :: a6 :: a7 :: a8 :: a9 :: Γ)) : Sep c g h [a0, a1, a2, a3, a4, a5, a6, a7, a8, a9] := S.take 10
theorem Sep.lC (S : Sep c g h Γ) (S1 : Sep ⟨g, h, []⟩ g' h' []) : Sep c g' h' Γ := S.call S1
theorem Sep.aiJ (S : Sep c g h Γ) (S1 : Sep ⟨g, h, []⟩ g' h' [o]) : Sep c g' h' (o :: Γ) := S.call S1
theorem Sep.Y9 {o2 : Ob} (S : Sep c g h (o :: Γ)) (S1 : Sep ⟨g, h, o.bA⟩ g' h' [o2]) : Sep c g' h' (o2 :: Γ) := S.aiH S1
end
end Go.Ve
namespace Go.Ve
open Go.RowKit
open Classical
noncomputable section
def gT (l : List Int) : Prop := l.Pairwise (· < ·)
def kv (x : Int) : List Int → List Int
 | [] => [x]
 | y :: l => bif decide (x < y) then x :: y :: l else bif decide (x = y) then y :: l else y :: kv x l
theorem we {x z : Int} : ∀ {l : List Int}, z ∈ kv x l ↔ z = x ∨ z ∈ l
 | [] => by simp [kv]
 | y :: l => by
  unfold kv
  by_cases h1 : x < y
  · rw [decide_eq_true h1]; simp
  · rw [decide_eq_false h1]
    by_cases h2 : x = y
    · rw [decide_eq_true h2]; subst h2; simp
    · rw [decide_eq_false h2]
      show z ∈ y :: kv x l ↔ _
      rw [List.mem_cons, we, List.mem_cons]
      constructor
      · rintro (h | h | h) <;> simp [h]
      · rintro (h | h | h) <;> simp [h]
theorem wg {x : Int} : ∀ {l : List Int}, gT l → gT (kv x l)
 | [], _ => by simp [kv, gT]
 | y :: l, h => by
  have h' := List.pairwise_cons.1 h
  unfold kv
  by_cases h1 : x < y
  · rw [decide_eq_true h1]
    exact List.pairwise_cons.2 ⟨fun z hz => by
     rcases List.mem_cons.1 hz with rfl | hz
     · exact h1
     · exact Int.lt_trans h1 (h'.1 z hz), h⟩
  · rw [decide_eq_false h1]
    by_cases h2 : x = y
    · rw [decide_eq_true h2]; exact h
    · rw [decide_eq_false h2]
      exact List.pairwise_cons.2 ⟨fun z hz => by
       rcases we.1 hz with rfl | hz
       · omega
       · exact h'.1 z hz, wg h'.2⟩
theorem gT.nd {l : List Int} (h : gT l) : l.Nodup := h.imp fun h => by omega
theorem gT.ext : ∀ {l m : List Int}, gT l → gT m → (∀ x, x ∈ l ↔ x ∈ m) → l = m
 | [], [], _, _, _ => rfl
 | [], y :: m, _, _, h => absurd ((h y).2 List.mem_cons_self) (by simp)
 | x :: l, [], _, _, h => absurd ((h x).1 List.mem_cons_self) (by simp)
 | x :: l, y :: m, hl, hm, h => by
  have gB := List.pairwise_cons.1 hl
  have nR := List.pairwise_cons.1 hm
  have e : x = y := by
   rcases List.mem_cons.1 ((h x).1 List.mem_cons_self) with e | hx
   · exact e
   · rcases List.mem_cons.1 ((h y).2 List.mem_cons_self) with e | hy
     · exact e.symm
     · have := nR.1 x hx; have := gB.1 y hy; omega
  subst e
  refine congrArg (x :: ·) (gT.ext gB.2 nR.2 fun z => ⟨fun hz => ?_, fun hz => ?_⟩)
  · rcases List.mem_cons.1 ((h z).1 (List.mem_cons_of_mem _ hz)) with rfl | mm
    · have := gB.1 z hz; omega
    · exact mm
  · rcases List.mem_cons.1 ((h z).2 (List.mem_cons_of_mem _ hz)) with rfl | mm
    · have := nR.1 z hz; omega
    · exact mm
theorem aiK {x : Int} {l : List Int} (h : gT l) (hx : x ∈ l) : kv x l = l := gT.ext (wg h) h fun z => by
 rw [we]; exact ⟨fun hz => hz.elim (fun e => e ▸ hx) id, .inr⟩
theorem aiL {l m : List Int} (hl : l.Nodup) (hm : m.Nodup) (h : ∀ x, x ∈ l ↔ x ∈ m) : l.Perm m := (List.perm_ext_iff_of_nodup hl hm).2 h
theorem aiM {x : Int} {l : List Int} (h : gT l) (hx : x ∉ l) : (kv x l).Perm (x :: l) := aiL (wg h).nd (List.nodup_cons.2 ⟨hx, h.nd⟩) fun z => by rw [we, List.mem_cons]
structure fK (es : List (Value × Value × Nat)) (cl : Nat) (l : List Int) : Prop where
 ks : ∃ ks : List Int, ks.Perm l ∧ es.map (fun e => (e.1, e.2.1)) = ks.map fun k => (vi k, Value.bool true)
 oh : gT l
 st : (es.map fun e => e.2.2).Nodup
 lt : ∀ e ∈ es, e.2.2 < cl
theorem fK.nil : fK [] 0 [] := ⟨⟨[], .refl _, rfl⟩, .nil, .nil, fun e h => by simp at h⟩
theorem aiN (x y : Int) : lh 0 (vi x) (vi y) = some (decide (x = y)) := by
 rw [← yC]; rfl
theorem Za {x : Int} : ∀ {es : List (Value × Value × Nat)} {ks : List Int} {cl : Nat}, es.map (fun e => (e.1, e.2.1)) = ks.map (fun k => (vi k, Value.bool true)) →
 (x ∈ ks → ∀ k, nN 0 es (vi x) (.bool true) cl k = k es cl) ∧ (x ∉ ks → ∀ k, nN 0 es (vi x) (.bool true) cl k = k (es ++ [(vi x, .bool true, cl)]) (cl + 1))
 | [], [], cl, _ => ⟨fun h => by simp at h, fun _ k => by show fN (Nat.succ cl) _ = _; rw [ch]; rfl⟩
 | [], _ :: _, _, h => by simp at h
 | _ :: _, [], _, h => by simp at h
 | (a, v, n) :: es, b :: ks, cl, h => by
  simp only [List.map_cons, List.cons.injEq, Prod.mk.injEq] at h
  obtain ⟨⟨rfl, rfl⟩, ht⟩ := h
  have he : ∀ k, nN 0 ((vi b, .bool true, n) :: es) (vi x) (.bool true) cl k = bif decide (x = b) then k ((vi x, .bool true, n) :: es) cl else nN 0 es (vi x) (.bool true) cl (fun cG jj => k ((vi b, .bool true, n) :: cG) jj) := fun k => by
   show (match lh 0 (vi x) (vi b) with | some true => k ((vi x, .bool true, n) :: es) cl | some false => nN 0 es (vi x) (.bool true) cl (fun cG jj => k ((vi b, .bool true, n) :: cG) jj) | none => false) = _
   rw [aiN]
   cases decide (x = b) <;> rfl
  obtain ⟨h1, h2⟩ := Za (x := x) (cl := cl) ht
  by_cases hx : x = b
  · subst hx
    refine ⟨fun _ k => by rw [he, decide_eq_true rfl]; rfl, fun hn => absurd List.mem_cons_self hn⟩
  · refine ⟨fun hm k => ?_, fun hn k => ?_⟩
    · rw [he, decide_eq_false hx]; exact h1 ((List.mem_cons.1 hm).resolve_left hx) _
    · rw [he, decide_eq_false hx]; exact h2 (fun h => hn (List.mem_cons_of_mem _ h)) _
theorem fK.jf {es : List (Value × Value × Nat)} {cl : Nat} {l : List Int} (H : fK es cl l) (x : Int) : ∃ cG jj, fK cG jj (kv x l) ∧ ∀ k, nN 0 es (vi x) (.bool true) cl k = k cG jj := by
 obtain ⟨ks, h1, h2⟩ := H.ks
 obtain ⟨u1, u2⟩ := Za (x := x) (cl := cl) h2
 by_cases hx : x ∈ ks
 · refine ⟨es, cl, ?_, u1 hx⟩
   rw [aiK H.oh (h1.mem_iff.1 hx)]
   exact H
 · refine ⟨_, _, ⟨⟨ks ++ [x], ?_, by simp [h2]⟩, wg H.oh, ?_, fun e he => ?_⟩, u2 hx⟩
   · exact (List.perm_append_comm.trans (List.Perm.cons x h1)).trans (aiM H.oh fun h => hx (h1.mem_iff.2 h)).symm
   · rw [List.map_append]
     refine List.nodup_append.2 ⟨H.st, by simp, fun a ha b hb => ?_⟩
     obtain ⟨e, he, rfl⟩ := List.mem_map.1 ha
     simp at hb
     have := H.lt e he
     omega
   · rcases List.mem_append.1 he with he | he
     · have := H.lt e he; omega
     · simp at he; subst he; exact Nat.lt_succ_self _
def r9 (g : AH) (v : Value) (l : List Int) : Prop := (v = .map none ∧ l = []) ∨ ∃ b es cl, v = .map (some b) ∧ g.ob.get b = some (.map es cl) ∧ fK es cl l
theorem r9.mono {g g' : AH} {v : Value} {l : List Int} (H : r9 g v l) (S : Sub g g') : r9 g' v l := by
 rcases H with h | ⟨b, es, cl, h1, h2, h3⟩
 · exact .inl h
 · exact .inr ⟨b, es, cl, h1, S.get _ _ h2, h3⟩
theorem r9.oh {g : AH} {v : Value} {l : List Int} (H : r9 g v l) : gT l := by
 rcases H with ⟨_, rfl⟩ | ⟨b, es, cl, _, _, h⟩
 · exact .nil
 · exact h.oh
section
variable {c : Cx} {g h : AH} {Γ : List Ob} {R : Value → AH → Prop} {b cl : Nat} {es : List (Value × Value × Nat)} {l : List Int}
theorem Ig {r : Nat} (hr : h.ob.get r = some (.map es cl)) (k : List (Value × Value × Nat) → Nat → Bool) : ko h r k = k es cl := by
 unfold ko; rw [tu hr]
theorem Qa {it : Nat} {m : Option Nat} {since last : Nat} {seen : List Nat} (hi : h.ob.get it = some (.fh m since seen last)) (k : Option Nat → Nat → List Nat → Nat → Bool) : tc h it k = k m since seen last := by
 unfold tc; rw [tu hi]
theorem Sep.smk (S : Sep c g h Γ) (K : ∀ b h', Sep c g h' (.mp b [] 0 :: Γ) → fK [] 0 [] → R (.map (some b)) h') : WP .mkMap [] h R :=
 ahb.2 (K _ _ (S.add _ (AH.yF S.ok _) (Nat.le_succ _) (dv.er h _).get (by show (h.er _).ob.get h.nx = _; rw [AH.qo, if_pos rfl]) (by simp [Ob.bA]) (fun b hb => by simp [Ob.bA] at hb; subst hb; exact ⟨Nat.lt_succ_self _, Nat.le_refl _⟩)) fK.nil)
theorem Sep.Qb {x : Int} (S : Sep c g h (.mp b es cl :: Γ)) (A : fK es cl l) (K : ∀ cG jj h', Sep c g h' (.mp b cG jj :: Γ) → fK cG jj (kv x l) → R undef h') : WP (.oA 0) [.map (some b), vi x, .bool true] h R := by
 have hb : h.ob.get b = some (.map es cl) := S.dT _ List.mem_cons_self
 have hn := AH.lt_of_get S.ok hb
 obtain ⟨cG, jj, h1, h2⟩ := A.jf x
 have key : ∀ k : KV, (Prim.oA 0).ev [.map (some b), vi x, .bool true] h k = k undef (h.lW b (.map cG jj)) := fun k => by
  show iff (Ak 0 (vi x)) (ko h b fun es cl => nN 0 es (vi x) (.bool true) cl fun es cl => gz h b (some (.map es cl)) fun h => k undef h) = _
  rw [Ig hb, h2, yG]; rfl
 refine (dk key).2 (K cG jj _ ?_ h1)
 refine S.change _ (AH.Hh S.ok hn _) (Nat.le_refl _) (fun f _ hf => ?_) ?_ (by simp [Ob.bA]) (fun b' cw => by simp [Ob.bA] at cw; subst cw; exact ⟨hn, .inr (by simp [Ob.bA])⟩)
 · rw [AH.rT, if_neg (by simpa [Ob.bA] using hf)]
 · show (h.lW b (.map cG jj)).ob.get b = _
   rw [AH.rT, if_pos rfl]
theorem Sep.aiO (S : Sep c g h (.mp b es cl :: Γ)) (A : fK es cl l) : ∃ g', Sub g g' ∧ Sep c g' h Γ ∧ r9 g' (.map (some b)) l := by
 obtain ⟨h1, h2, h3⟩ := S.freeze (b := b) rfl
 exact ⟨_, h1, h2, .inr ⟨b, es, cl, rfl, h3.trans (S.dT _ List.mem_cons_self), A⟩⟩
end
section
variable {c : Cx} {g h : AH} {Γ : List Ob}
theorem Sep.aiP {α : Type} {rep : ie α} {ty : TypeId} {sz : Nat} {v : Value} {ls : List (List Value)} {l : List α} (S : Sep c g h (.sl ty sz v ls :: Γ)) (A : au (rep g) ls l) (hm : wa rep) :
    ∃ g', Sub g g' ∧ Sub g' h ∧ ae rep sz g' v l ∧ ∀ g2 h2, Sep ⟨g', h, []⟩ g2 h2 [] → Sep c g h2 (.sl ty sz v ls :: Γ) := by
  have O : ei h ty sz v ls := S.dT _ List.mem_cons_self
  obtain ⟨g', sg, S1, Ie, F⟩ : ∃ g', Sub g g' ∧ Sep c g' h Γ ∧ (∀ b ∈ ej v, ∃ x, g'.ob.get b = some x ∧ h.ob.get b = some x) ∧ ae rep sz g' v l := by
    cases O with
    | nil => exact ⟨g, .refl g, S.drop, fun b hb => by simp [ej] at hb, ⟨[], .nil, A⟩⟩
    | un b o n lo hi cc _ hn hb hg h1 h2 hr hs =>
      obtain ⟨k1, k2, k3⟩ := S.freeze (b := b) rfl
      exact ⟨_, k1, k2, fun b' cw => by
        have cw : b' = b := by simpa [ej] using cw
        subst cw
        exact ⟨_, k3.trans hg, hg⟩, ⟨ls, .mk b o n _ ls hn ⟨hb, .inr rfl⟩ hs (wb k3 hr), A.mono fun x y hh => hm _ _ _ _ k1 hh⟩⟩
    | kn b o n cap lo hi cz cc _ hn hb hc hg h1 h2 hr hs =>
      obtain ⟨k1, k2, k3⟩ := S.freeze (b := b) rfl
      exact ⟨_, k1, k2, fun b' cw => by
        have cw : b' = b := by simpa [ej] using cw
        subst cw
        exact ⟨_, k3.trans hg, hg⟩, ⟨ls, .mk b o n cap ls hn ⟨by omega, .inl ⟨hb, hc⟩⟩ hs (wb k3 hr), A.mono fun x y hh => hm _ _ _ _ k1 hh⟩⟩
  refine ⟨g', sg, S1.sub, F, fun g2 h2 S2 => ?_⟩
  have S3 := S1.bY S2
  refine ⟨S.bX, sg.trans S3.sub, S3.ok, S3.nx, fun f h1 h2 => ⟨(S3.old f h1 h2).1, (S.old f h1 h2).2⟩, fun o ho => ?_, S.nd, fun b hb => ⟨Nat.lt_of_lt_of_le (S.own b hb).1 S2.nx, (S.own b hb).2⟩⟩
  rcases List.mem_cons.1 ho with rfl | ho
  · exact ei.yW O fun b hb => by
      obtain ⟨x, h1, h2⟩ := Ie b hb
      rw [h2]; exact S3.sub.get _ _ h1
  · exact S3.dT o ho
end
theorem Zb : ∀ (l : List Nat) (n : Nat) (k : List Nat → Bool), Bj l n k = k (l ++ [n])
 | [], _, _ => rfl
 | x :: l, n, k => Zb l n fun l' => k (x :: l')
theorem Qc {since : Nat} {seen : List Nat} : ∀ {es : List (Value × Value × Nat)} {k : List (Value × Value × Nat) → Bool}, (∀ e ∈ es, e.2.2 < since) → rF es since seen k = k (es.filter fun e => !decide (e.2.2 ∈ seen))
 | [], _, _ => rfl
 | e :: es, k, h => by
  have h1 : Nat.ble (Nat.succ e.2.2) since = true := Nat.ble_eq_true_of_le (h e List.mem_cons_self)
  have h2 : pY seen e.2.2 = decide (e.2.2 ∈ seen) := by rw [N9]; simp
  show iff (Nat.ble (Nat.succ e.2.2) since) (bif pY seen e.2.2 then rF es since seen k else rF es since seen fun l => k (e :: l)) = _
  rw [h1, h2]
  by_cases hm : e.2.2 ∈ seen
  · rw [decide_eq_true hm, List.filter_cons, decide_eq_true hm]
    exact Qc fun e he => h e (List.mem_cons_of_mem _ he)
  · rw [decide_eq_false hm, List.filter_cons, decide_eq_false hm]
    exact Qc fun e he => h e (List.mem_cons_of_mem _ he)
theorem Zc {go : Value → Value → Nat → Bool} : ∀ {l : List (Value × Value × Nat)}, (∀ e ∈ l, go e.1 e.2.1 e.2.2 = true) → td go l = true
 | [], _ => rfl
 | [(a, v, n)], h => h (a, v, n) List.mem_cons_self
 | (a, v, n) :: e :: l, h => by
  show iff (go a v n) (td go (e :: l)) = true
  rw [iff_eq]
  exact ⟨h (a, v, n) List.mem_cons_self, Zc fun e he => h e (List.mem_cons_of_mem _ he)⟩
theorem Zd : ∀ (l : List Nat) (n : Nat) (k : Nat → Bool), vj (l ++ [n]) k = k n
 | [], _, _ => rfl
 | [x], _, _ => rfl
 | x :: y :: l, n, k => Zd (y :: l) n k
theorem Ze {a v : Value} {n : Nat} {k : Value → Value → Bool} : ∀ {es : List (Value × Value × Nat)}, (a, v, n) ∈ es → (es.map fun e => e.2.2).Nodup → tf es n k = k a v
  | (a', v', n') :: es, hm, nd => by
    have ny := List.nodup_cons.1 nd
    show (bif Nat.beq n' n then k a' v' else tf es n k) = _
    rcases List.mem_cons.1 hm with e | hm
    · cases e
      rw [Nat.beq_refl]; rfl
    · have : Nat.beq n' n = false := by
        cases hb : Nat.beq n' n with
        | false => rfl
        | true =>
          have e := Nat.eq_of_beq_eq_true hb
          subst e
          exact absurd (List.mem_map.2 ⟨_, hm, rfl⟩) ny.1
      rw [this]
      exact Ze hm ny.2
section
variable {h : AH} {R : Value → AH → Prop} {it r cl : Nat} {es : List (Value × Value × Nat)} {seen : List Nat}
theorem Zf (gh : h.ob.get it = some (.fh (some r) cl seen cl)) (hr : h.ob.get r = some (.map es cl)) (hl : ∀ e ∈ es, e.2.2 < cl)
 (K1 : ∀ e ∈ es, e.2.2 ∉ seen → R (.tuple ⟨[.bool true, e.1, e.2.1]⟩) (h.lW it (.fh (some r) cl (seen ++ [e.2.2]) cl)))
 (K0 : (∀ e ∈ es, e.2.2 ∈ seen) → R (.tuple ⟨[.bool false]⟩) (h.kill it)) : WP (.x .zZ) [az it 0] h R := by
 intro k hk
 show tc h it (fun m since seen last => Option.casesOn (motive := fun _ => Bool) m (k (.tuple ⟨[.bool false]⟩) h) fun r =>
  ko h r fun es cl => iff (Nat.beq cl since && Nat.beq last since) (rF es since seen (Gx h it r since seen k))) = true
 rw [Qa gh]
 show ko h r (fun es jj => iff (Nat.beq jj cl && Nat.beq cl cl) (rF es cl seen (Gx h it r cl seen k))) = true
 rw [Ig hr, Nat.beq_refl, Qc hl]
 show Gx h it r cl seen k _ = true
 have hm : ∀ e, e ∈ es.filter (fun e => !decide (e.2.2 ∈ seen)) ↔ e ∈ es ∧ e.2.2 ∉ seen := fun e => by simp
 generalize es.filter (fun e => !decide (e.2.2 ∈ seen)) = l at hm
 cases l with
 | nil =>
  show gz h it none (fun h => k (.tuple ⟨[.bool false]⟩) h) = true
  rw [XM]
  exact hk _ _ (K0 fun e he => Classical.byContradiction fun hn => by simpa using (hm e).2 ⟨he, hn⟩)
 | cons e0 l0 =>
  show td (Gw h it r cl seen k) (e0 :: l0) = true
  refine Zc fun e he => ?_
  obtain ⟨h1, h2⟩ := (hm e).1 he
  unfold Gw
  rw [Zb, yG]
  exact hk _ _ (K1 e h1 h2)
theorem aiQ {n : Nat} {a v : Value} (gh : h.ob.get it = some (.fh (some r) cl (seen ++ [n]) cl)) (hr : h.ob.get r = some (.map es cl)) (he : (a, v, n) ∈ es) (nd : (es.map fun e => e.2.2).Nodup) (K : R (.tuple ⟨[a, v]⟩) h) :
 WP (.x .entry) [az it 0] h R := by
 refine (dk (R := R) (h := h) (h' := h) (v := .tuple ⟨[a, v]⟩) fun k => ?_).2 K
 show tc h it (fun m _ seen last => Option.casesOn (motive := fun _ => Bool) m false fun r =>
  ko h r fun es cl => iff (Nat.beq cl last) (vj seen fun n => tf es n fun a v => k (.tuple ⟨[a, v]⟩) h)) = _
 rw [Qa gh]
 show ko h r (fun es jj => iff (Nat.beq jj cl) (vj (seen ++ [n]) fun n => tf es n fun a v => k (.tuple ⟨[a, v]⟩) h)) = _
 rw [Ig hr, Nat.beq_refl, Zd, Ze he nd]
 rfl
end
def sa (e : Value × Value × Nat) : Int := match e.1 with
 | .int _ n => n
 | _ => 0
theorem fK.keys {es : List (Value × Value × Nat)} {cl : Nat} {l : List Int} (H : fK es cl l) : (es.map sa).Perm l ∧ ∀ e ∈ es, e.1 = vi (sa e) ∧ e.2.1 = .bool true := by
 obtain ⟨ks, h1, h2⟩ := H.ks
 have e1 : es.map sa = ks := by
  have : (es.map (fun e => (e.1, e.2.1))).map (fun p => match p.1 with | .int _ n => n | _ => (0 : Int)) = ks := by
   rw [h2, List.map_map]
   exact List.map_id' ks
  rw [List.map_map] at this
  exact this
 refine ⟨by rw [e1]; exact h1, fun e he => ?_⟩
 have hm : (e.1, e.2.1) ∈ ks.map fun k => (vi k, Value.bool true) := by rw [← h2]; exact List.mem_map.2 ⟨e, he, rfl⟩
 obtain ⟨k, _, hk⟩ := List.mem_map.1 hm
 obtain ⟨k1, k2⟩ := Prod.mk.inj hk
 unfold sa
 rw [← k1]
 exact ⟨rfl, k2.symm⟩
theorem Qd {α β : Type} {f : α → β} : ∀ {l : List α}, (l.map f).Nodup → ∀ x ∈ l, ∀ y ∈ l, f x = f y → x = y
 | a :: l, nd, x, hx, y, hy, e => by
  have ny := List.nodup_cons.1 nd
  rcases List.mem_cons.1 hx with h1 | hx <;> rcases List.mem_cons.1 hy with h2 | hy
  · rw [h1, h2]
  · exact absurd (List.mem_map.2 ⟨y, hy, by rw [← e, h1]⟩) ny.1
  · exact absurd (List.mem_map.2 ⟨x, hx, by rw [e, h2]⟩) ny.1
  · exact Qd ny.2 x hx y hy e
theorem Zg {α : Type} {l m : List α} (hl : l.Nodup) (hm : m.Nodup) (h : ∀ x ∈ l, x ∈ m) : (l ++ m.filter fun x => !decide (x ∈ l)).Perm m := by
 refine (List.perm_ext_iff_of_nodup (List.nodup_append.2 ⟨hl, hm.filter _, fun a ha b hb e => ?_⟩) hm).2 fun x => ?_
 · subst e; simp [ha] at hb
 · rw [List.mem_append, List.mem_filter]
   by_cases hx : x ∈ l
   · simp [hx, h x hx]
   · simp [hx]
theorem aiR {α : Type} {l m : List α} (hl : l.Nodup) (hm : m.Nodup) (h : ∀ x ∈ l, x ∈ m) (hn : m.length ≤ l.length) : l.Perm m := by
 have p := Zg hl hm h
 have e := p.length_eq
 rw [List.length_append] at e
 have : (m.filter fun x => !decide (x ∈ l)) = [] := List.length_eq_zero_iff.1 (by omega)
 rwa [this, List.append_nil] at p
theorem Qe {α : Type} {l m : List α} (hl : l.Nodup) (hm : m.Nodup) (h : ∀ x ∈ l, x ∈ m) : l.length ≤ m.length := by
 have := (Zg hl hm h).length_eq
 rw [List.length_append] at this
 omega
theorem Qf {α β : Type} {f : α → β} : ∀ {l : List α}, (l.map f).Nodup → l.Nodup
 | [], _ => .nil
 | a :: l, nd => by
  have ny := List.nodup_cons.1 nd
  exact List.nodup_cons.2 ⟨fun h => ny.1 (List.mem_map.2 ⟨a, h, rfl⟩), Qf ny.2⟩
section
variable {c : Cx} {g h : AH} {Γ : List Ob}
theorem Sep.unit {b : Nat} {a : AO} (S : Sep c g h (.raw b a :: Γ)) : Sep c g (h.kill b) Γ := by
 have hb : h.ob.get b = some a := S.dT _ List.mem_cons_self
 refine (S.change (.ds []) (AH.XL S.ok b) (Nat.le_refl _) (fun f _ hf => ?_) (fun r hr => by simp at hr) (by simp [Ob.bA]) (fun b hb => by simp [Ob.bA] at hb)).drop
 rw [AH.OW, if_neg (by simpa [Ob.bA] using hf)]
theorem Sep.aiS {b : Nat} {a : AO} (S : Sep c g h (.raw b a :: Γ)) (a' : AO) : Sep c g (h.lW b a') (.raw b a' :: Γ) := by
 have hb : h.ob.get b = some a := S.dT _ List.mem_cons_self
 have hn := AH.lt_of_get S.ok hb
 refine S.change _ (AH.Hh S.ok hn _) (Nat.le_refl _) (fun f _ hf => ?_) ?_ (by simp [Ob.bA]) (fun b' cw => by simp [Ob.bA] at cw; subst cw; exact ⟨hn, .inr (by simp [Ob.bA])⟩)
 · rw [AH.rT, if_neg (by simpa [Ob.bA] using hf)]
 · show (h.lW b a').ob.get b = _
   rw [AH.rT, if_pos rfl]
theorem Sep.range {α : Type} {l : List Int} {v : Value} (S : Sep c g h Γ) (M : r9 g v l) {F : Value → (α → W) → α → W} {B : Value → (α → W) → α → W} {X : Value → α → W}
    (hF : ∀ it k a, F it k a = pr (.x .zZ) [it] fun t => pr (.extract 0) [t] fun c => br c (B it k a) (X it a)) {a0 : α} (I : List Int → α → AH → List Ob → Prop) (h0 : I [] a0 g Γ)
    (step : ∀ (it : Value) (o : Ob) (k : α → W) (a : α) (g1 h1 : AH) (Γ1 : List Ob) (xs : List Int) (x : Int), I xs a g1 Γ1 → Sub g g1 → x ∈ l → x ∉ xs → Sep c g1 h1 (o :: Γ1) → (∀ R : Value → AH → Prop, R (.tuple ⟨[vi x, .bool true]⟩) h1 → WP (.x .entry) [it] h1 R) →
      (∀ a' g2 h2 Γ2, Sub g1 g2 → Sep c g2 h2 (o :: Γ2) → I (xs ++ [x]) a' g2 Γ2 → k a' h2) → B it k a h1)
    (fin : ∀ it a g1 h1 Γ1 xs, Sub g g1 → xs.Perm l → I xs a g1 Γ1 → Sep c g1 h1 Γ1 → X it a h1) : WP (.x .Ki) [v] h fun it h => LP (F it) a0 h := by
  rcases M with ⟨rfl, rfl⟩ | ⟨r, es, cl, rfl, hr, A⟩
  · refine (dk (h := h) (h' := h.er (.fh none 0 [] 0)) (v := az h.nx 0) fun k => ?_).2 ⟨1, ?_⟩
    · show lu h (.fh none 0 [] 0) (fun b h => k (az b 0) h) = _
      rw [BK]
    · show F (az h.nx 0) (gG (F (az h.nx 0)) 0) a0 _
      rw [hF]
      have gh : (h.er (.fh none 0 [] 0)).ob.get h.nx = some (.fh none 0 [] 0) := by rw [AH.qo, if_pos rfl]
      refine (dk (h := h.er (.fh none 0 [] 0)) (h' := h.er (.fh none 0 [] 0)) (v := .tuple ⟨[.bool false]⟩) fun k => ?_).2 ((fH (v := .bool false) rfl).2 (show X (az h.nx 0) a0 (h.er (.fh none 0 [] 0)) from fin _ a0 g _ Γ [] (.refl g) (.refl _) h0 (S.cB (dv.er h _) (AH.yF S.ok _))))
      show tc (h.er (.fh none 0 [] 0)) h.nx _ = _
      rw [Qa gh]
  · have hrh : h.ob.get r = some (.map es cl) := S.sub.get _ _ hr
    have Ih := A.keys
    have knd : (es.map sa).Nodup := Ih.1.nodup_iff.2 A.oh.nd
    refine (dk (h := h) (h' := h.er (.fh (some r) cl [] cl)) (v := az h.nx 0) fun k => ?_).2 ⟨es.length + 1, ?_⟩
    · show ko h r (fun _ cl => lu h (.fh (some r) cl [] cl) fun b h => k (az b 0) h) = _
      rw [Ig hrh, BK]
    · have S1 : Sep c g (h.er (.fh (some r) cl [] cl)) (.raw h.nx (.fh (some r) cl [] cl) :: Γ) :=
        S.add _ (AH.yF S.ok _) (Nat.le_succ _) (dv.er h _).get (by show (h.er _).ob.get h.nx = _; rw [AH.qo, if_pos rfl]) (by simp [Ob.bA]) (fun b hb => by simp [Ob.bA] at hb; subst hb; exact ⟨Nat.lt_succ_self _, Nat.le_refl _⟩)
      generalize h.nx = it at S1
      have key : ∀ (m : Nat) (nz : List (Value × Value × Nat)) (a : α) (g1 h1 : AH) (Γ1 : List Ob), nz.length + m = es.length → nz.Nodup → (∀ e ∈ nz, e ∈ es) → Sub g g1 → I (nz.map sa) a g1 Γ1 →
          Sep c g1 h1 (.raw it (.fh (some r) cl (nz.map fun e => e.2.2) cl) :: Γ1) → gG (F (az it 0)) (m + 1) a h1 := by
        intro m
        induction m with
        | zero =>
          intro nz a g1 h1 Γ1 hlen Ii ar sg hI S1
          show F (az it 0) _ a h1
          rw [hF]
          have vp : nz.Perm es := aiR Ii (Qf A.st) ar (by omega)
          refine Zf (S1.dT _ List.mem_cons_self) (S1.sub.get _ _ (sg.get _ _ hr)) A.lt (fun e he hs => absurd (List.mem_map.2 ⟨e, vp.mem_iff.2 he, rfl⟩) hs) fun fV => (fH rfl).2 ?_
          exact fin _ a g1 _ Γ1 _ sg ((vp.map sa).trans Ih.1) hI S1.unit
        | succ m ih =>
          intro nz a g1 h1 Γ1 hlen Ii ar sg hI S1
          show F (az it 0) _ a h1
          rw [hF]
          refine Zf (S1.dT _ List.mem_cons_self) (S1.sub.get _ _ (sg.get _ _ hr)) A.lt (fun e he hs => (fH rfl).2 ?_) fun fV => (fH rfl).2 ?_
          · have Zh := Ih.2 e he
            have Zi : e ∉ nz := fun h => hs (List.mem_map.2 ⟨e, h, rfl⟩)
            have S2 := S1.aiS (.fh (some r) cl ((nz.map fun e => e.2.2) ++ [e.2.2]) cl)
            show B (az it 0) _ a _
            refine step _ _ _ a g1 _ Γ1 (nz.map sa) (sa e) hI sg (Ih.1.mem_iff.1 (List.mem_map.2 ⟨e, he, rfl⟩)) (fun h => ?_) S2 (fun R hR => ?_) (fun a' g2 h2 Γ2 Ij S3 hI2 => ?_)
            · obtain ⟨e', Zj, he2⟩ := List.mem_map.1 h
              exact Zi (Qd knd e' (ar e' Zj) e he he2 ▸ Zj)
            · refine aiQ (a := e.1) (v := e.2.1) (n := e.2.2) (S2.dT _ List.mem_cons_self) (S2.sub.get _ _ (sg.get _ _ hr)) he A.st ?_
              rw [Zh.1, Zh.2]; exact hR
            · refine ih (nz ++ [e]) a' g2 h2 Γ2 (by rw [List.length_append]; simp; omega) ?_ ?_ (sg.trans Ij) (by rw [List.map_append]; exact hI2) (by rw [List.map_append]; exact S3)
              · exact List.nodup_append.2 ⟨Ii, by simp, fun x hx y hy e' => by simp at hy; subst hy; subst e'; exact Zi hx⟩
              · intro x hx
                rcases List.mem_append.1 hx with hx | hx
                · exact ar x hx
                · simp at hx; subst hx; exact he
          · have hes : ∀ e ∈ es, e ∈ nz := fun e he => by
              obtain ⟨e', h1, h2⟩ := List.mem_map.1 (fV e he)
              exact Qd A.st e' (ar e' h1) e he h2 ▸ h1
            have := Qe (Qf A.st) Ii hes
            omega
      exact key es.length [] a0 g _ Γ (by simp) .nil (fun e he => by simp at he) (.refl g) h0 S1
end
end
end Go.Ve
namespace Go.Ve.T
open Go.Ve Go.Proofs
noncomputable section
set_option maxRecDepth 10000
structure ak where
 aJ : Int
 fA : Int
 fB : Int
 fC : Int
deriving DecidableEq
def ak.rep : ie ak := fun g vs x => vs = [(vi x.aJ), (vi x.fA), (vi x.fB), (vi x.fC)]
theorem ak.mono : wa ak.rep := fun _ _ _ _ _ e => e
structure aH where
 dN : Int
 ew : Int
 dJ : Int
deriving DecidableEq
def aH.rep : ie aH := fun g vs x => vs = [(vi x.dN), (vi x.ew), (vi x.dJ)]
theorem aH.mono : wa aH.rep := fun _ _ _ _ _ e => e
structure al where
 aE : ByteArray
 aG : ByteArray
 fArgs : Int
 aC : Int
 aD : Int
 ab : List ak
 aI : List aH
deriving DecidableEq
def al.rep : ie al := fun g vs x => ∃ w1 w2 : Value, vs = [(.string x.aE), (.string x.aG), (vi x.fArgs), (vi x.aC), (vi x.aD), w1, w2] ∧ ae ak.rep 4 g w1 x.ab ∧ ae aH.rep 3 g w2 x.aI
structure ek where
 e0 : Int
 e1 : Int
 e2 : Int
deriving DecidableEq
structure eN where
 e0 : Int
 e1 : Int
deriving DecidableEq
structure sr where
 nB : ByteArray
 dG : ek
 iY : Int
 c7 : eN
 jr : Bool
 iZ : Bool
deriving DecidableEq
structure ct where
 bQ : ek
 fY : Int
 cx : eN
 gi : Bool
deriving DecidableEq
end
end Go.Ve.T
namespace Go.Ve.T
open Go.Ve Go.Proofs Go.ChangeShapes Go.WideShapes Go.ChangeAt Go.RowKit
section
variable {H : Type} {h : AH}
abbrev lB (h : AH) (t : TypeId) (cs : List Value) (d : DataW H) : Prop := AD PP h t cs d
theorem ah2 {α : Type} (R : List Value → α → Prop) (Pr : α → Prop) : ∀ ls : List (List Value), (∀ y ∈ ls, ∃ x, R y x ∧ Pr x) → ∃ l, au R ls l ∧ ∀ x ∈ l, Pr x := by
 intro ls
 induction ls with
 | nil => intro _; exact ⟨[], au.nil, fun x hx => by cases hx⟩
 | cons y ls ih =>
  intro hh
  obtain ⟨x, h1, h2⟩ := hh y List.mem_cons_self
  obtain ⟨l, h3, h4⟩ := ih fun z hz => hh z (List.mem_cons_of_mem _ hz)
  refine ⟨x :: l, ⟨by rw [List.length_cons, List.length_cons, h3.1], fun i a c ha hc => ?_⟩, fun z hz => ?_⟩
  · cases i with
    | zero => simp at ha hc; rw [← ha, ← hc]; exact h1
    | succ i => exact h3.2 i a c (by simpa using ha) (by simpa using hc)
  · rcases List.mem_cons.1 hz with h | h
    · rw [h]; exact h2
    · exact h4 z h
theorem ah3 {t : TypeId} {cs : List Value} {d : DataW H} (hu : PP.underlying t = some (.int .i64)) (A : lB h t cs d) : ∃ n, rI .i64 h cs n ∧ -9223372036854775808 ≤ n := by
 cases A with
 | int t k n bG hw =>
  rw [hu] at bG; cases bG
  refine ⟨n, rfl, ?_⟩
  have : IntKind.i64.min ≤ n ∧ n ≤ IntKind.i64.max := by
   simpa [Lit.wf] using hw
  have e : IntKind.i64.min = -9223372036854775808 := by decide
  omega
 | bool _ _ bG => rw [hu] at bG; cases bG
 | str _ _ bG => rw [hu] at bG; cases bG
 | mi _ _ bG => rw [hu] at bG; cases bG
 | sl _ _ _ _ _ _ _ _ _ bG => rw [hu] at bG; cases bG
 | struct _ _ _ _ bG => rw [hu] at bG; cases bG
 | arr _ _ _ _ _ bG => rw [hu] at bG; cases bG
theorem ah4 {t : TypeId} {cs : List Value} {d : DataW H} (hu : PP.underlying t = some .string) (A : lB h t cs d) : ∃ s, cs = [.string s] := by
 cases A with
 | str t s bG => exact ⟨s, rfl⟩
 | bool _ _ bG => rw [hu] at bG; cases bG
 | int _ _ _ bG => rw [hu] at bG; cases bG
 | mi _ _ bG => rw [hu] at bG; cases bG
 | sl _ _ _ _ _ _ _ _ _ bG => rw [hu] at bG; cases bG
 | struct _ _ _ _ bG => rw [hu] at bG; cases bG
 | arr _ _ _ _ _ bG => rw [hu] at bG; cases bG
theorem YK {α : Type} {rep : ie α} {sz : Nat} {t e : TypeId} {cs : List Value} {d : DataW H} (hu : PP.underlying t = some (.slice e)) (hz : PP.cellsOf e = sz) (Pr : α → Prop) (el : ∀ cs d, lB (H := H) h e cs d → ∃ x, rep h cs x ∧ Pr x) (A : lB h t cs d) : ∃ v l, cs = [v] ∧ ae rep sz h v l ∧ ∀ x ∈ l, Pr x := by
 cases A with
 | mi t e' bG => exact ⟨_, [], rfl, ae.nil, fun x hx => by cases hx⟩
 | sl t e' b o n cap gN rest cX bG hn hc iu hl mm hr he =>
  rw [hu] at bG; cases bG
  obtain ⟨l, h1, h2⟩ := ah2 (rep h) Pr cX fun y hy => by
   obtain ⟨i, hi⟩ := List.getElem?_of_mem hy
   have bW : i < gN.length := by rw [hn, ← hl]; exact (List.getElem?_eq_some_iff.1 hi).1
   exact el y _ (he i y _ hi (List.getElem?_eq_getElem bW))
  refine ⟨_, l, rfl, ⟨cX, .mk b o n cap cX hl.symm ⟨?_, .inl ⟨hc, ?_⟩⟩ (fun x hx => by rw [← hz]; exact mm x hx) hr, h1⟩, h2⟩
  · have : maxLen < aY := by decide
    omega
  · have : maxLen < aY := by decide
    omega
 | bool _ _ bG => rw [hu] at bG; cases bG
 | int _ _ _ bG => rw [hu] at bG; cases bG
 | str _ _ bG => rw [hu] at bG; cases bG
 | struct _ _ _ _ bG => rw [hu] at bG; cases bG
 | arr _ _ _ _ _ bG => rw [hu] at bG; cases bG
theorem PS {t : TypeId} {fs : Array Field} {cs : List Value} {d : DataW H} (hu : PP.underlying t = some (.struct fs)) (A : lB h t cs d) : cs.length = PP.cellsOf t ∧ ∀ (i : Nat) (f : Field), fs[i]? = some f → ∃ d', lB (H := H) h f.type ((cs.drop f.offset).take (PP.cellsOf f.type)) d' := by
 cases A with
 | struct t fs' cs ds bG hl hd he =>
  rw [hu] at bG; cases bG
  refine ⟨hl, fun i f hf => ?_⟩
  have bW : i < ds.length := by rw [hd]; exact (Array.getElem?_eq_some_iff.1 hf).1
  exact ⟨_, he i f _ hf (List.getElem?_eq_getElem bW)⟩
 | bool _ _ bG => rw [hu] at bG; cases bG
 | int _ _ _ bG => rw [hu] at bG; cases bG
 | str _ _ bG => rw [hu] at bG; cases bG
 | mi _ _ bG => rw [hu] at bG; cases bG
 | sl _ _ _ _ _ _ _ _ _ bG => rw [hu] at bG; cases bG
 | arr _ _ _ _ _ bG => rw [hu] at bG; cases bG
theorem mC {k z o : Nat} {cs : List Value} {d : DataW H} (hz : PP.cellsOf k = z) (A : lB h k ((cs.drop o).take (PP.cellsOf k)) d) : lB h k ((cs.drop o).take z) d := hz ▸ A
theorem ah5 : PP.cellsOf 25 = 7 := by kernel_rfl
theorem YL : PP.cellsOf 9 = 1 := by kernel_rfl
theorem YM {cs : List Value} {d : DataW H} (A : lB h 9 cs d) : ∃ x, rS h cs x ∧ True := by
 obtain ⟨b, rfl⟩ := ah4 Tryz.underlying9 A
 exact ⟨b, rfl, trivial⟩
theorem qw : PP.cellsOf 3 = 1 := by kernel_rfl
theorem qx {cs : List Value} {d : DataW H} (A : lB h 3 cs d) : ∃ x, rI .i64 h cs x ∧ -9223372036854775808 ≤ x := ah3 Tryz.underlying3 A
theorem ah6 : PP.cellsOf 22 = 1 := by kernel_rfl
theorem YN : PP.cellsOf 67 = 4 := by kernel_rfl
theorem ah7 {α : Type} {l : List α} (h : l.length = 4) : ∃ c0 c1 c2 c3, l = [c0, c1, c2, c3] := by
 match l, h with
 | [c0, c1, c2, c3], _ => exact ⟨c0, c1, c2, c3, rfl⟩
theorem T3 {cs : List Value} {d : DataW H} (A : lB h 67 cs d) : ∃ x, ak.rep h cs x ∧ (-9223372036854775808 ≤ x.aJ) ∧ (-9223372036854775808 ≤ x.fA) ∧ (-9223372036854775808 ≤ x.fB) ∧ (-9223372036854775808 ≤ x.fC) := by
 obtain ⟨hl, hf⟩ := PS Tryz.underlying67 A
 obtain ⟨_, A0⟩ := hf 0 _ rfl
 obtain ⟨x0, e0, p0⟩ := qx (mC qw A0)
 obtain ⟨_, A1⟩ := hf 1 _ rfl
 obtain ⟨x1, e1, p1⟩ := qx (mC qw A1)
 obtain ⟨_, A2⟩ := hf 2 _ rfl
 obtain ⟨x2, e2, p2⟩ := qx (mC qw A2)
 obtain ⟨_, A3⟩ := hf 3 _ rfl
 obtain ⟨x3, e3, p3⟩ := qx (mC qw A3)
 rw [YN] at hl
 obtain ⟨c0, c1, c2, c3, rfl⟩ := ah7 hl
 cases e0
 cases e1
 cases e2
 cases e3
 exact ⟨⟨x0, x1, x2, x3⟩, rfl, ⟨p0, p1, p2, p3⟩⟩
theorem ah8 {cs : List Value} {d : DataW H} (A : lB h 22 cs d) : ∃ x, (rL ak.rep 4) h cs x ∧ ∀ r7 ∈ x, (-9223372036854775808 ≤ r7.aJ) ∧ (-9223372036854775808 ≤ r7.fA) ∧ (-9223372036854775808 ≤ r7.fB) ∧ (-9223372036854775808 ≤ r7.fC) := by
 obtain ⟨v, l, e, f, p⟩ := YK (rep := ak.rep) Tryz.underlying22 YN (fun y => (-9223372036854775808 ≤ y.aJ) ∧ (-9223372036854775808 ≤ y.fA) ∧ (-9223372036854775808 ≤ y.fB) ∧ (-9223372036854775808 ≤ y.fC)) (fun cs d A => T3 A) A
 exact ⟨l, ⟨v, e, f⟩, p⟩
theorem ah9 : PP.cellsOf 23 = 1 := by kernel_rfl
theorem YO : PP.cellsOf 79 = 3 := by kernel_rfl
theorem aia {α : Type} {l : List α} (h : l.length = 3) : ∃ c0 c1 c2, l = [c0, c1, c2] := by
 match l, h with
 | [c0, c1, c2], _ => exact ⟨c0, c1, c2, rfl⟩
theorem aib {cs : List Value} {d : DataW H} (A : lB h 79 cs d) : ∃ x, aH.rep h cs x ∧ (-9223372036854775808 ≤ x.dN) ∧ (-9223372036854775808 ≤ x.ew) ∧ (-9223372036854775808 ≤ x.dJ) := by
 obtain ⟨hl, hf⟩ := PS Tryz.underlying79 A
 obtain ⟨_, A0⟩ := hf 0 _ rfl
 obtain ⟨x0, e0, p0⟩ := qx (mC qw A0)
 obtain ⟨_, A1⟩ := hf 1 _ rfl
 obtain ⟨x1, e1, p1⟩ := qx (mC qw A1)
 obtain ⟨_, A2⟩ := hf 2 _ rfl
 obtain ⟨x2, e2, p2⟩ := qx (mC qw A2)
 rw [YO] at hl
 obtain ⟨c0, c1, c2, rfl⟩ := aia hl
 cases e0
 cases e1
 cases e2
 exact ⟨⟨x0, x1, x2⟩, rfl, ⟨p0, p1, p2⟩⟩
theorem aic {cs : List Value} {d : DataW H} (A : lB h 23 cs d) : ∃ x, (rL aH.rep 3) h cs x ∧ ∀ vP ∈ x, (-9223372036854775808 ≤ vP.dN) ∧ (-9223372036854775808 ≤ vP.ew) ∧ (-9223372036854775808 ≤ vP.dJ) := by
 obtain ⟨v, l, e, f, p⟩ := YK (rep := aH.rep) Tryz.underlying23 YO (fun y => (-9223372036854775808 ≤ y.dN) ∧ (-9223372036854775808 ≤ y.ew) ∧ (-9223372036854775808 ≤ y.dJ)) (fun cs d A => aib A) A
 exact ⟨l, ⟨v, e, f⟩, p⟩
theorem aid {α : Type} {l : List α} (h : l.length = 7) : ∃ c0 c1 c2 c3 c4 c5 c6, l = [c0, c1, c2, c3, c4, c5, c6] := by
 match l, h with
 | [c0, c1, c2, c3, c4, c5, c6], _ => exact ⟨c0, c1, c2, c3, c4, c5, c6, rfl⟩
theorem ac9 {cs : List Value} {d : DataW H} (A : lB h 25 cs d) : ∃ x, al.rep h cs x ∧ (-9223372036854775808 ≤ x.fArgs) ∧ (-9223372036854775808 ≤ x.aC) ∧ (-9223372036854775808 ≤ x.aD) ∧ (∀ r7 ∈ x.ab, (-9223372036854775808 ≤ r7.aJ) ∧ (-9223372036854775808 ≤ r7.fA) ∧ (-9223372036854775808 ≤ r7.fB) ∧ (-9223372036854775808 ≤ r7.fC)) ∧ (∀ vP ∈ x.aI, (-9223372036854775808 ≤ vP.dN) ∧ (-9223372036854775808 ≤ vP.ew) ∧ (-9223372036854775808 ≤ vP.dJ)) := by
 obtain ⟨hl, hf⟩ := PS Tryz.underlying25 A
 obtain ⟨_, A0⟩ := hf 0 _ rfl
 obtain ⟨x0, e0, p0⟩ := YM (mC YL A0)
 obtain ⟨_, A1⟩ := hf 1 _ rfl
 obtain ⟨x1, e1, p1⟩ := YM (mC YL A1)
 obtain ⟨_, A2⟩ := hf 2 _ rfl
 obtain ⟨x2, e2, p2⟩ := qx (mC qw A2)
 obtain ⟨_, A3⟩ := hf 3 _ rfl
 obtain ⟨x3, e3, p3⟩ := qx (mC qw A3)
 obtain ⟨_, A4⟩ := hf 4 _ rfl
 obtain ⟨x4, e4, p4⟩ := qx (mC qw A4)
 obtain ⟨_, A5⟩ := hf 5 _ rfl
 obtain ⟨x5, e5, p5⟩ := ah8 (mC ah6 A5)
 obtain ⟨_, A6⟩ := hf 6 _ rfl
 obtain ⟨x6, e6, p6⟩ := aic (mC ah9 A6)
 rw [ah5] at hl
 obtain ⟨w5, e5, f5⟩ := e5
 obtain ⟨w6, e6, f6⟩ := e6
 obtain ⟨c0, c1, c2, c3, c4, c5, c6, rfl⟩ := aid hl
 cases e0
 cases e1
 cases e2
 cases e3
 cases e4
 cases e5
 cases e6
 exact ⟨⟨x0, x1, x2, x3, x4, x5, x6⟩, ⟨w5, w6, rfl, f5, f6⟩, ⟨p2, p3, p4, p5, p6⟩⟩
end
section
variable {H : Type} {enc : TypeId × Value → H}
theorem ac7 : tE PP 10 25 = true := by kernel_rfl
theorem ac8 : tE PP 10 67 = true := by kernel_rfl
theorem T0 {W : World} {t : TypeId} {v : Value} {d : DataW H} {ps : List MemPlace} (hp : tE PP 10 t = true) (ht : DataW.Trod enc PP W 0 (fun _ => true) true t v d ps) {φ : aK} {h : AH} (R : HR PP W φ h W) :
 ∃ φ' h' cs, HR PP W φ' h' W ∧ Go.Ve.Ext h.nx φ φ' ∧ dv h h' ∧ LR φ' cs v.cells.toList ∧ lB h' t cs d := by
 obtain ⟨fuel, hf⟩ := ht
 exact ahv 10 t _ _ fuel hp hf φ h R
end
end Go.Ve.T
