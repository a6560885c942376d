/- Part 13: MADE BY A PROGRAM (gen_litn.py): the functions as the evaluator takes them, and that they are what the translation says. No condition. And what follows it. -/
import Derived.Test.YteeibihhdldjfaaGreatDoorVeL
import Derived.Test.YteeibihhdldjfaaGreatDoorProg
import Derived.KernelRfl
set_option linter.unusedVariables false
set_option linter.unusedSimpArgs false
namespace Go.Ve.T
open Go.Ve Go.Proofs
noncomputable abbrev PP : Program := Tryz.prog
theorem bF : PP.follows .mixedOrders = true := by kernel_rfl
abbrev fc (f : Nat) : Value := .func (.func f) #[] #[]
abbrev bs (l : List UInt8) : Value := .string ⟨⟨l⟩⟩
abbrev o (d : Pos) (p : Prim) (a : List dB) : bh := ⟨some d, .aC p, a, none⟩
abbrev m (d : Pos) (x : dB) : bh := ⟨some d, .aC .move, [x], none⟩
def s0 : Pos := .xH
def s1 : Pos := .xO s0
def s2 : Pos := .xI s0
def s3 : Pos := .xO s1
def s4 : Pos := .xI s1
def s5 : Pos := .xO s2
def s6 : Pos := .xI s2
def s7 : Pos := .xO s3
def s8 : Pos := .xI s3
def s9 : Pos := .xO s4
def jL : Pos := .xI s4
def oF : Pos := .xO s5
def nB : Pos := .xI s5
def o6 : Pos := .xO s6
def qy : Pos := .xI s6
def qz : Pos := .xO s7
def kJ : Pos := .xI s7
def l3 : Pos := .xO s8
def jt : Pos := .xI s8
def qA : Pos := .xO s9
def qB : Pos := .xI s9
def qC : Pos := .xO jL
def qD : Pos := .xI jL
def su : Pos := .xO oF
def qE : Pos := .xI oF
def qF : Pos := .xO nB
def qG : Pos := .xI nB
def qH : Pos := .xO o6
def qI : Pos := .xI o6
def qJ : Pos := .xO qy
def qK : Pos := .xI qy
def n6 : Pos := .xO qz
def n7 : Pos := .xI qz
def qL : Pos := .xO kJ
def sv : Pos := .xI kJ
def rn : Pos := .xO l3
def tW : Pos := .xI l3
def sw : Pos := .xO jt
def wm : Pos := .xI jt
def yu : Pos := .xO qA
def yw : Pos := .xI qA
def yx : Pos := .xO qB
def uT : Pos := .xI qB
def yy : Pos := .xO qC
def yz : Pos := .xI qC
def sx : Pos := .xO qD
def yA : Pos := .xI qD
def yB : Pos := .xO su
def nh : Pos := .xI su
def yC : Pos := .xO qE
def sy : Pos := .xI qE
def yD : Pos := .xO qF
def yE : Pos := .xI qF
def yF : Pos := .xO qG
def n8 : Pos := .xI qG
def qM : Pos := .xO qH
def G0 : Pos := .xI qH
def G1 : Pos := .xO qI
def G2 : Pos := .xI qI
def G3 : Pos := .xO qJ
def G4 : Pos := .xI qJ
def G5 : Pos := .xO qK
def G6 : Pos := .xI qK
def G7 : Pos := .xO n6
def G8 : Pos := .xI n6
def G9 : Pos := .xO n7
def Ha : Pos := .xI n7
def Hb : Pos := .xO qL
def Hc : Pos := .xI qL
def WS : Pos := .xO sv
def WT : Pos := .xI sv
def WU : Pos := .xO rn
def WV : Pos := .xI rn
def WW : Pos := .xO tW
def WX : Pos := .xI tW
def WY : Pos := .xO sw
def WZ : Pos := .xI sw
def W0 : Pos := .xO wm
abbrev R9 : FuncId := 8
abbrev Ks : FuncId := 12
abbrev Ju : FuncId := 14
abbrev ED : FuncId := 28
abbrev JA : FuncId := 32
abbrev JD : FuncId := 36
abbrev JZ : FuncId := 40
abbrev J3 : FuncId := 42
abbrev JU : FuncId := 43
abbrev J7 : FuncId := 44
abbrev vf : FuncId := 53
abbrev Jd : FuncId := 54
abbrev JC : FuncId := 62
abbrev pO : FuncId := 75
abbrev JV : FuncId := 78
abbrev EC : FuncId := 79
abbrev uQ : FuncId := 84
abbrev w7 : FuncId := 86
abbrev IS : FuncId := 87
abbrev JT : FuncId := 88
abbrev Jz : FuncId := 90
abbrev DZ : FuncId := 93
abbrev IP : FuncId := 100
abbrev DV : FuncId := 101
abbrev Eg : FuncId := 102
abbrev Jj : FuncId := 103
abbrev Eh : FuncId := 104
abbrev I8 : FuncId := 105
abbrev Jc : FuncId := 106
abbrev RN : FuncId := 107
abbrev Ra : FuncId := 120
abbrev D3 : FuncId := 121
abbrev Jy : FuncId := 122
abbrev DY : FuncId := 123
abbrev DW : FuncId := 124
abbrev IN : FuncId := 134
abbrev I5 : FuncId := 135
abbrev aag : FuncId := 154
abbrev Rp : FuncId := 155
noncomputable def aF (k : Nat) : gn := (bW PP k).getD ⟨0, [], .skip, false⟩
theorem dT {k : Nat} (h : (bW PP k).isSome = true) : bW PP k = some (aF k) := by
 unfold aF
 cases hc : bW PP k with
 | none => rw [hc] at h; cases h
 | some x => rfl
theorem e3 : bW PP 3 = some (aF 3) := dT (by kernel_rfl)
theorem e4 : bW PP 4 = some (aF 4) := dT (by kernel_rfl)
theorem e5 : bW PP 5 = some (aF 5) := dT (by kernel_rfl)
theorem e6 : bW PP 6 = some (aF 6) := dT (by kernel_rfl)
theorem e7 : bW PP 7 = some (aF 7) := dT (by kernel_rfl)
theorem e8 : bW PP 8 = some (aF 8) := dT (by kernel_rfl)
theorem e9 : bW PP 9 = some (aF 9) := dT (by kernel_rfl)
theorem GY : bW PP 10 = some (aF 10) := dT (by kernel_rfl)
theorem e14 : bW PP 14 = some (aF 14) := dT (by kernel_rfl)
theorem e28 : bW PP 28 = some (aF 28) := dT (by kernel_rfl)
def vg : gn := ⟨33,[.tmp s4],(.seq (.ops [o s2 (.box 25) [.t s0],m s4 (.c bN)]) (.seq (.seq (.ops [o s7 (.bL 7) [.t s2],⟨some s8,(.call 53),[.t s7],none⟩,o s9 (.eE) [.t s8],m jL (.t s9),⟨some oF,(.aC (.move)),[.t s1],some (jL,false)⟩,⟨some nB,(.aC (.fieldAddr 5)),[.t s2],some (jL,false)⟩,⟨some o6,(.aC (.ay)),[.t nB],some (jL,false)⟩,⟨some qy,(.aC (.di)),[.t o6],some (jL,false)⟩,⟨some qz,(.aC (.aD .sub)),[.t qy,.c (vi 1)],some (jL,false)⟩,⟨some kJ,(.call 75),[.t oF,.c (vi 0),.t qz],some (jL,false)⟩,⟨some l3,(.aC (.eE)),[.t kJ],some (jL,false)⟩,o jt (.pick) [.t jL,.c (.bool true),.t l3]]) (.cond (.t jt) (.seq (.ops [m s4 (.c bN)]) .ret) .skip)) (.seq (.ops [o s5 (.alloc 28 [bN]) []]) (.seq (.seq (.ops [o qA (.bL 7) [.t s2],m qB (.t s1),⟨some qC,(.call 86),[.t qA,.t qB],none⟩]) (.block 0 (.l4 (.t qC) [qD,su] (.ops [m s6 (.t qD)]) (.block 1 (.seq (.ops [o qE (.ay) [.t s5],m qF (.t s6),⟨some qG,(.call 90),[.t qE,.t qF],none⟩,o qH (.eE) [.t qG]]) (.cond (.t qH) (.ops [o qI (.ay) [.t s5],m qJ (.t s6),o qK (.buildSlice 3 1 [(vi 0)] [(0,1)]) [.t qJ],o n6 (.append 3 1 [(vi 0)]) [.t qI,.t qK],⟨none,(.aC (.store 1)),[.t s5,.t n6],none⟩]) .skip)))))) (.seq (.ops [o n7 (.ay) [.t s5],m s4 (.t n7)]) .ret))))),false⟩
theorem e32 : bW PP 32 = some vg := by kernel_rfl
def sW : gn := ⟨69,[.tmp s2],(.seq (.ops [o s1 (.box 25) [.t s0],m s2 (.c bN)]) (.seq (.seq (.ops [o jL (.bL 7) [.t s1],⟨some oF,(.call 53),[.t jL],none⟩,o nB (.eE) [.t oF]]) (.cond (.t nB) (.seq (.ops [m s2 (.c bN)]) .ret) .skip)) (.seq (.ops [o o6 (.mkMap) [],⟨none,(.aC (.oB 0)),[.t o6,.c (vi 0),.c (.bool true)],none⟩,m qy (.t o6),o s3 (.alloc 102 [(.map none)]) [],⟨none,(.aC (.store 1)),[.t s3,.t qy],none⟩]) (.seq (.seq (.ops [o qz (.fieldAddr 5) [.t s1],o kJ (.ay) [.t qz],o l3 (.di) [.t kJ],m jt (.c (vi 0))]) (.block 0 (.loop (.seq (.ops [o qA (.aD .lss) [.t jt,.t l3]]) (.seq (.cond (.t qA) .skip (.exit 0)) (.seq (.block 1 (.seq (.ops [m qB (.t jt),o qC (.cS 4) [.t kJ,.t jt],o qD (.bL 4) [.t qC],o s4 (.alloc 3 [(vi 0)]) [],o s5 (.alloc 67 [(vi 0), (vi 0), (vi 0), (vi 0)]) [],⟨none,(.aC (.store 1)),[.t s4,.t qB],none⟩,⟨none,(.aC (.store 4)),[.t s5,.t qD],none⟩]) (.seq (.seq (.ops [o su (.bL 7) [.t s1],o qE (.ay) [.t s4],⟨some qF,(.call 86),[.t su,.t qE],none⟩]) (.block 2 (.l4 (.t qF) [qG,qH] (.seq (.ops [m s6 (.t qG)]) (.ops [m s7 (.t qH)])) (.block 3 (.seq (.ops [m qI (.t s6),m qJ (.t s7),o qK (.cY [1, 1]) [.t qI,.t qJ],o n6 (.ay) [.t s4],o n7 (.aD .add) [.t n6,.c (vi 1)],o qL (.cY [1, 1]) [.t n7,.c (vi 0)],o sv (.zR true [0, 0]) [.t qK,.t qL]]) (.cond (.t sv) (.ops [o rn (.ay) [.t s3],m tW (.t s6),⟨none,(.aC (.oB 0)),[.t rn,.t tW,.c (.bool true)],none⟩]) .skip)))))) (.seq (.ops [o wm (.fieldAddr 0) [.t s5],o yu (.ay) [.t wm],⟨some yw,(.call 84),[.t yu],none⟩,m sw (.t yw),o yx (.extract 0) [.t sw],o uT (.extract 1) [.t sw],o s8 (.alloc 138 [(bs []), (vi 0), (vi 0), (vi 0), (vi 0), (vi 0), (vi 0), (.bool false), (.bool false)]) [],⟨none,(.aC (.store 9)),[.t s8,.t yx],none⟩,m s9 (.t uT)]) (.seq (.ops [o yy (.fieldAddr 8) [.t s8],o yz (.ay) [.t yy],m sx (.t yz),⟨some yA,(.aC (.fieldAddr 0)),[.t s5],some (sx,false)⟩,⟨some yB,(.aC (.ay)),[.t yA],some (sx,false)⟩,⟨some nh,(.aC (.aD .eql)),[.t yB,.c (vi 25)],some (sx,false)⟩,o yC (.pick) [.t sx,.c (.bool true),.t nh],m sy (.t yC),⟨some yD,(.aC (.fieldAddr 0)),[.t s5],some (sy,false)⟩,⟨some yE,(.aC (.ay)),[.t yD],some (sy,false)⟩,⟨some yF,(.aC (.aD .eql)),[.t yE,.c (vi 32)],some (sy,false)⟩,o n8 (.pick) [.t sy,.c (.bool true),.t yF],m qM (.t n8),⟨some G0,(.aC (.ay)),[.t s4],some (qM,true)⟩,⟨some G1,(.aC (.aD .add)),[.t G0,.c (vi 1)],some (qM,true)⟩,⟨some G2,(.aC (.fieldAddr 5)),[.t s1],some (qM,true)⟩,⟨some G3,(.aC (.ay)),[.t G2],some (qM,true)⟩,⟨some G4,(.aC (.di)),[.t G3],some (qM,true)⟩,⟨some G5,(.aC (.aD .lss)),[.t G1,.t G4],some (qM,true)⟩,o G6 (.pick) [.t qM,.t G5,.c (.bool false)]]) (.cond (.t G6) (.ops [o G7 (.ay) [.t s3],o G8 (.ay) [.t s4],o G9 (.aD .add) [.t G8,.c (vi 1)],⟨none,(.aC (.oB 0)),[.t G7,.t G9,.c (.bool true)],none⟩]) .skip)))))) (.ops [o Ha (.aD .add) [.t jt,.c (vi 1)],m jt (.t Ha)]))))))) (.seq (.ops [o Hb (.ay) [.t s3],⟨some Hc,(.call 62),[.t Hb],none⟩,m s2 (.t Hc)]) .ret))))),false⟩
theorem e36 : bW PP 36 = some sW := by kernel_rfl
theorem e40 : bW PP 40 = some (aF 40) := dT (by kernel_rfl)
theorem e42 : bW PP 42 = some (aF 42) := dT (by kernel_rfl)
theorem e43 : bW PP 43 = some (aF 43) := dT (by kernel_rfl)
theorem e44 : bW PP 44 = some (aF 44) := dT (by kernel_rfl)
theorem e53 : bW PP 53 = some (aF 53) := dT (by kernel_rfl)
def xb : gn := ⟨78,[.cell s2 none,.cell s3 none],(.seq (.ops [o s1 (.box 25) [.t s0],o s2 (.alloc 28 [bN]) [],o s3 (.alloc 4 [(.bool false)]) []]) (.seq (.ops [o jL (.buildSlice 3 1 [(vi 0)] [(0,1)]) [.c (vi (-1))],o oF (.fieldAddr 5) [.t s1],o nB (.ay) [.t oF],o o6 (.di) [.t nB],⟨some qy,(.call 105),[.t jL,.t o6],none⟩,o s4 (.alloc 28 [bN]) [],⟨none,(.aC (.store 1)),[.t s4,.t qy],none⟩]) (.seq (.ops [o qz (.ay) [.t s4],o kJ (.cS 1) [.t qz,.c (vi 0)],⟨none,(.aC (.store 1)),[.t kJ,.c (vi 0)],none⟩]) (.seq (.seq (.ops [o l3 (.buildSlice 3 1 [(vi 0)] [(0,1)]) [.c (vi 0)],o s5 (.alloc 28 [bN]) [],⟨none,(.aC (.store 1)),[.t s5,.t l3],none⟩]) (.block 0 (.loop (.seq (.seq (.ops [o jt (.ay) [.t s5],o qA (.di) [.t jt],o qB (.aD .gtr) [.t qA,.c (vi 0)]]) (.cond (.t qB) .skip (.exit 0))) (.seq (.block 1 (.seq (.ops [o su (.ay) [.t s5],o qE (.cS 1) [.t su,.c (vi 0)],o qF (.ay) [.t qE],o s6 (.alloc 3 [(vi 0)]) [],⟨none,(.aC (.store 1)),[.t s6,.t qF],none⟩]) (.seq (.ops [o qG (.bL 7) [.t s1],o qH (.ay) [.t s6],⟨some qI,(.call 86),[.t qG,.t qH],none⟩]) (.block 2 (.l4 (.t qI) [qJ,qK] (.seq (.ops [m s7 (.t qJ)]) (.ops [m s8 (.t qK)])) (.block 3 (.seq (.draw [.op 0 (o n6 (.ay) [.t s4]),.op 1 (o n7 (.ay) [.t s6]),.op 2 (o qL (.cS 1) [.t n6,.t n7]),.op 3 (o sv (.ay) [.t qL]),.op 4 (o rn (.fieldAddr 5) [.t s1]),.op 5 (o tW (.ay) [.t rn]),.op 6 (o sw (.ay) [.t s6]),.op 7 (o wm (.cS 4) [.t tW,.t sw]),.op 8 (o yu (.bL 4) [.t wm]),.op 9 (m yw (.t s8)),.op 10 (⟨some yx,(.call 106),[.t yu,.t yw],none⟩),.iX 3 (o sv (.ay) [.t qL]),.iX 2 (o qL (.cS 1) [.t n6,.t n7]),.iX 1 (o n7 (.ay) [.t s6]),.iX 0 (o n6 (.ay) [.t s4]),.op 11 (o uT (.aD .add) [.t sv,.t yx]),.op 12 (m s9 (.t uT))]) (.seq (.seq (.ops [m yy (.t s8),o yz (.aD .eql) [.t yy,.c (vi 2)]]) (.cond (.t yz) (.ops [m s9 (.c (vi 0))]) .skip)) (.seq (.seq (.ops [m sx (.t s9),⟨some yA,(.call 75),[.t sx,.c (vi 0),.c (vi 40)],none⟩,o yB (.eE) [.t yA],m nh (.t yB),⟨some yC,(.aC (.ay)),[.t s4],some (nh,false)⟩,⟨some sy,(.aC (.move)),[.t s7],some (nh,false)⟩,⟨some yD,(.aC (.cS 1)),[.t yC,.t sy],some (nh,false)⟩,⟨some yE,(.aC (.ay)),[.t yD],some (nh,false)⟩,⟨some yF,(.aC (.aD .geq)),[.t yE,.c (vi 0)],some (nh,false)⟩,⟨some n8,(.aC (.move)),[.t yF],some (nh,false)⟩,⟨some qM,(.aC (.ay)),[.t s4],some (n8,true)⟩,⟨some G0,(.aC (.move)),[.t s7],some (n8,true)⟩,⟨some G1,(.aC (.cS 1)),[.t qM,.t G0],some (n8,true)⟩,⟨some G2,(.aC (.ay)),[.t G1],some (n8,true)⟩,⟨some G3,(.aC (.move)),[.t s9],some (n8,true)⟩,⟨some G4,(.aC (.aD .neq)),[.t G2,.t G3],some (n8,true)⟩,⟨some G5,(.aC (.pick)),[.t n8,.t G4,.c (.bool false)],some (nh,false)⟩,o G6 (.pick) [.t nh,.c (.bool true),.t G5]]) (.cond (.t G6) (.seq (.ops [⟨none,(.aC (.store 1)),[.t s2,.c bN],none⟩,⟨none,(.aC (.store 1)),[.t s3,.c (.bool false)],none⟩]) .ret) .skip)) (.seq (.ops [o G7 (.ay) [.t s4],m G8 (.t s7),o G9 (.cS 1) [.t G7,.t G8],o Ha (.ay) [.t G9],o Hb (.aD .lss) [.t Ha,.c (vi 0)]]) (.cond (.t Hb) (.seq (.ops [o Hc (.ay) [.t s4],m WS (.t s7),m WT (.t s9),o WU (.cS 1) [.t Hc,.t WS],⟨none,(.aC (.store 1)),[.t WU,.t WT],none⟩]) (.ops [o WV (.ay) [.t s5],m WW (.t s7),o WX (.buildSlice 3 1 [(vi 0)] [(0,1)]) [.t WW],o WY (.append 3 1 [(vi 0)]) [.t WV,.t WX],⟨none,(.aC (.store 1)),[.t s5,.t WY],none⟩])) .skip))))))))))) (.seq (.seq (.ops [o WZ (.ay) [.t s5]]) (.ops [o s5 (.alloc 28 [bN]) [],⟨none,(.aC (.store 1)),[.t s5,.t WZ],none⟩])) (.ops [o qC (.ay) [.t s5],o qD (.slice 1 true false false) [.t qC,.c (vi 1)],⟨none,(.aC (.store 1)),[.t s5,.t qD],none⟩]))))))) (.seq (.ops [o W0 (.ay) [.t s4],⟨none,(.aC (.store 1)),[.t s2,.t W0],none⟩,⟨none,(.aC (.store 1)),[.t s3,.c (.bool true)],none⟩]) .ret))))),false⟩
theorem e54 : bW PP 54 = some xb := by kernel_rfl
theorem e62 : bW PP 62 = some (aF 62) := dT (by kernel_rfl)
theorem ZV : bW PP 75 = some (aF 75) := dT (by kernel_rfl)
def zW : gn := ⟨55,[.cell s4 none],(.seq (.ops [o s2 (.box 25) [.t s0],o s3 (.box 100) [.t s1],o s4 (.alloc 39 [bN]) []]) (.seq (.ops [o jL (.fieldAddr 5) [.t s2],o oF (.ay) [.t jL],o nB (.di) [.t oF],o o6 (.mkSlice 4 1 [(.bool false)]) [.t nB,.t nB],o s5 (.alloc 39 [bN]) [],⟨none,(.aC (.store 1)),[.t s5,.t o6],none⟩]) (.seq (.ops [o qy (.buildSlice 3 1 [(vi 0)] [(0,1)]) [.c (vi 0)],o s6 (.alloc 28 [bN]) [],⟨none,(.aC (.store 1)),[.t s6,.t qy],none⟩]) (.seq (.ops [o qz (.ay) [.t s5],o kJ (.cS 1) [.t qz,.c (vi 0)],⟨none,(.aC (.store 1)),[.t kJ,.c (.bool true)],none⟩]) (.seq (.block 0 (.loop (.seq (.seq (.ops [o l3 (.ay) [.t s6],o jt (.di) [.t l3],o qA (.aD .gtr) [.t jt,.c (vi 0)]]) (.cond (.t qA) .skip (.exit 0))) (.block 1 (.seq (.ops [o qB (.ay) [.t s6],o qC (.ay) [.t s6],o qD (.di) [.t qC],o su (.aD .sub) [.t qD,.c (vi 1)],o qE (.cS 1) [.t qB,.t su],o qF (.ay) [.t qE],o s7 (.alloc 3 [(vi 0)]) [],⟨none,(.aC (.store 1)),[.t s7,.t qF],none⟩]) (.seq (.ops [o qG (.ay) [.t s6],o qH (.ay) [.t s6],o qI (.di) [.t qH],o qJ (.aD .sub) [.t qI,.c (vi 1)],o qK (.slice 1 false true false) [.t qG,.t qJ],⟨none,(.aC (.store 1)),[.t s6,.t qK],none⟩]) (.seq (.ops [o n6 (.bL 7) [.t s2],o n7 (.ay) [.t s7],⟨some qL,(.call 86),[.t n6,.t n7],none⟩]) (.block 2 (.l4 (.t qL) [sv,rn] (.seq (.ops [m s8 (.t sv)]) (.ops [m s9 (.t rn)])) (.block 3 (.seq (.seq (.ops [o tW (.ay) [.t s3],o sw (.ay) [.t s7],m wm (.t s8),m yu (.t s9),⟨some yw,.dyn,[.t tW,.t sw,.t wm,.t yu],none⟩,o yx (.eE) [.t yw]]) (.cond (.t yx) (.seq (.ops [⟨none,(.aC (.store 1)),[.t s4,.c bN],none⟩]) .ret) .skip)) (.seq (.ops [o uT (.ay) [.t s5],m yy (.t s8),o yz (.cS 1) [.t uT,.t yy],o sx (.ay) [.t yz],o yA (.eE) [.t sx]]) (.cond (.t yA) (.seq (.ops [o yB (.ay) [.t s5],m nh (.t s8),o yC (.cS 1) [.t yB,.t nh],⟨none,(.aC (.store 1)),[.t yC,.c (.bool true)],none⟩]) (.ops [o sy (.ay) [.t s6],m yD (.t s8),o yE (.buildSlice 3 1 [(vi 0)] [(0,1)]) [.t yD],o yF (.append 3 1 [(vi 0)]) [.t sy,.t yE],⟨none,(.aC (.store 1)),[.t s6,.t yF],none⟩])) .skip))))))))))))) (.seq (.ops [o n8 (.ay) [.t s5],⟨none,(.aC (.store 1)),[.t s4,.t n8],none⟩]) .ret)))))),false⟩
theorem e78 : bW PP 78 = some zW := by kernel_rfl
theorem e79 : bW PP 79 = some (aF 79) := dT (by kernel_rfl)
theorem Z1 : bW PP 84 = some (aF 84) := dT (by kernel_rfl)
theorem e86 : bW PP 86 = some (aF 86) := dT (by kernel_rfl)
theorem Z3 : bW PP 87 = some (aF 87) := dT (by kernel_rfl)
theorem e88 : bW PP 88 = some (aF 88) := dT (by kernel_rfl)
theorem e90 : bW PP 90 = some (aF 90) := dT (by kernel_rfl)
theorem e93 : bW PP 93 = some (aF 93) := dT (by kernel_rfl)
theorem ZZ : bW PP 100 = some (aF 100) := dT (by kernel_rfl)
theorem Z5 : bW PP 101 = some (aF 101) := dT (by kernel_rfl)
theorem aas : bW PP 102 = some (aF 102) := dT (by kernel_rfl)
theorem aaw : bW PP 103 = some (aF 103) := dT (by kernel_rfl)
theorem aau : bW PP 104 = some (aF 104) := dT (by kernel_rfl)
theorem aak : bW PP 105 = some (aF 105) := dT (by kernel_rfl)
theorem aam : bW PP 106 = some (aF 106) := dT (by kernel_rfl)
theorem afO : bW PP 120 = some (aF 120) := dT (by kernel_rfl)
theorem aac : bW PP 121 = some (aF 121) := dT (by kernel_rfl)
theorem aaA : bW PP 122 = some (aF 122) := dT (by kernel_rfl)
theorem Z9 : bW PP 123 = some (aF 123) := dT (by kernel_rfl)
theorem Z7 : bW PP 124 = some (aF 124) := dT (by kernel_rfl)
theorem ZX : bW PP 134 = some (aF 134) := dT (by kernel_rfl)
theorem aai : bW PP 135 = some (aF 135) := dT (by kernel_rfl)
theorem aaf : bW PP 155 = some (aF 155) := dT (by kernel_rfl)
end Go.Ve.T
namespace Go.Ve
open Go.RowKit
noncomputable section
def Prim.GA : Prim → Bool
 | .move => true
 | _ => false
theorem Prim.aff {p : Prim} (h : p.GA = true) : p = .move := by
 unfold Prim.GA at h
 split at h
 · rfl
 · cases h
def GB (P : Program) (w0 : World) (act : iI) (vs : List Value) (E K : Value → W) : W := match act with
 | .aC p => (match p.GA, vs with
  | true, [x] => K x
  | _, vs => pr p vs K)
 | .call f => cl P w0 f vs E K
 | .dyn => dy P w0 vs E K
 | .panic => pn vs E
 | _ => fun _ => False
def yf (P : Program) (w0 : World) (o : bh) (σ : Sl) (E K : Value → W) : W := match o.guard with
 | none => GB P w0 o.act (o.args.map (dR σ)) E K
 | some (g, want) => gd (σ g) want (fun k => GB P w0 o.act (o.args.map (dR σ)) E k) K
def GC (P : Program) (w0 : World) : List bh → Sl → (Value → W) → (Sl → W) → W
 | [], σ, _, N => N σ
 | o :: l, σ, E, N => yf P w0 o σ E fun v => GC P w0 l (σ.eC o.dst v) E N
def GD (p : Prim) (vs : List Value) (v : Value) (K : W) : W := bif p.makes then ckm p vs v K else ck p vs v K
def GF (o : bh) (σ : Sl) (K : W) : W := match o.act, o.dst with
 | .aC p, some q => (match o.guard with
  | none => GD p (o.args.map (dR σ)) (σ q) K
  | some (g, want) => gk (σ g) want (fun k => GD p (o.args.map (dR σ)) (σ q) k) K)
 | _, _ => fun _ => False
def BD (P : Program) (w0 : World) : List iJ → Sl → (Value → W) → (Sl → W) → W
 | [], σ, _, N => N σ
 | .op _ o :: l, σ, E, N => yf P w0 o σ E fun v => BD P w0 l (σ.eC o.dst v) E N
 | .iX _ o :: l, σ, E, N => GF o σ (BD P w0 l σ E N)
def BE : List Pos → Type
 | [] => Unit
 | [_] => Value
 | _ :: q :: ps => Value × BE (q :: ps)
def kr : (ps : List Pos) → Sl → BE ps
 | [], _ => ()
 | [p], σ => σ p
 | p :: q :: ps, σ => (σ p, kr (q :: ps) σ)
def sk : (ps : List Pos) → Sl → BE ps → Sl
 | [], σ, _ => σ
 | [p], σ, a => σ.up p a
 | p :: q :: ps, σ, a => (sk (q :: ps) σ a.2).up p a.1
def nl : c7 → Nat
 | .seq a b => nl a + nl b
 | .cond _ a b => nl a + nl b
 | .block _ c => nl c
 | .loop c => nl c + 1
 | _ => 0
def cF (P : Program) (w0 : World) : c7 → List (List Pos) → Sl → (Value → W) → (AX → Sl → W) → W
 | .skip, _, σ, _, X => X .normal σ
 | .ops l, _, σ, E, X => GC P w0 l σ E (X .normal)
 | .draw l, _, σ, E, X => BD P w0 l σ E (X .normal)
 | .seq a b, L, σ, E, X => cF P w0 a L σ E fun x σ => match x with
  | .normal => cF P w0 b (L.drop (nl a)) σ E X
  | x => X x σ
 | .cond c a b, L, σ, E, X => br (dR σ c) (cF P w0 a L σ E X) (cF P w0 b (L.drop (nl a)) σ E X)
 | .block id c, L, σ, E, X => cF P w0 c L σ E fun x σ => match x with
  | .exit j => bif Nat.beq j id then X .normal σ else X (.exit j) σ
  | x => X x σ
 | .loop c, L, σ, E, X => (match L with
  | ps :: L => LP (α := BE ps) (fun k a => cF P w0 c L (sk ps σ a) E fun x σ => match x with
   | .normal => k (kr ps σ)
   | x => X x σ) (kr ps σ)
  | [] => fun _ => False)
 | .l4 _ _ _ _, _, _, _, _ => fun _ => False
 | .exit id, _, σ, _, X => X (.exit id) σ
 | .ret, _, σ, _, X => X .ret σ
def cI (D : Nat) (p : Pos) : Bool := D.testBit p.un
def BF (D : Nat) (p : Pos) : Nat := D ^^^ (D &&& (1 <<< p.un))
def NX (D : Nat) : Option Pos → Nat
 | none => D
 | some p => BF D p
def qs (D : Nat) : Option Pos → Nat
 | none => D
 | some p => D ||| (1 <<< p.un)
def jC (D : Nat) : List Pos → Nat
 | [] => D
 | p :: ps => jC (BF D p) ps
def agree (D : Nat) (σ τ : Sl) : Prop := ∀ p, cI D p = false → σ p = τ p
theorem Wa (p q : Pos) : (1 <<< p.un).testBit q.un = decide (q = p) := by
 rw [Nat.one_shiftLeft, Nat.testBit_two_pow]
 exact decide_eq_decide.2 ⟨fun e => (Pos.sX e).symm, fun e => by rw [e]⟩
theorem GG (A B : Nat) (p : Pos) : cI (A ||| B) p = (cI A p || cI B p) := Nat.testBit_or ..
theorem Wb (D : Nat) (p q : Pos) : cI (BF D p) q = (cI D q && !decide (q = p)) := by
 unfold cI BF
 rw [Nat.testBit_xor, Nat.testBit_and, Wa]
 cases D.testBit q.un <;> cases decide (q = p) <;> rfl
theorem yg (D : Nat) (p q : Pos) : cI (qs D (some p)) q = (cI D q || decide (q = p)) := by
 unfold cI qs
 rw [Nat.testBit_or, Wa]
theorem Wc {q : Pos} : ∀ {ps : List Pos} {D : Nat}, cI (jC D ps) q = (cI D q && !decide (q ∈ ps))
 | [], D => by simp [jC]
 | p :: ps, D => by
  rw [jC, Wc, Wb]
  by_cases e : q = p <;> simp [e]
theorem agree.or {A B : Nat} {σ τ : Sl} (h : agree A σ τ) : agree (A ||| B) σ τ := fun p hp => h p (by rw [GG, Bool.or_eq_false_iff] at hp; exact hp.1)
theorem agree.or' {A B : Nat} {σ τ : Sl} (h : agree B σ τ) : agree (A ||| B) σ τ := fun p hp => h p (by rw [GG, Bool.or_eq_false_iff] at hp; exact hp.2)
theorem Sl.tS (σ : Sl) (p q : Pos) (v : Value) : σ.up p v q = if q = p then v else σ q := by
 unfold Sl.up
 by_cases e : q = p
 · rw [if_pos e, Pos.beq_iff.2 e.symm]; rfl
 · rw [if_neg e]
   cases h : p.beq q with
   | false => rfl
   | true => exact absurd (Pos.beq_iff.1 h).symm e
theorem agree.up {D : Nat} {σ τ : Sl} (h : agree D σ τ) : ∀ (d : Option Pos) (v : Value), agree (NX D d) (σ.eC d v) (τ.eC d v)
 | none, _ => h
 | some p, v => fun q hq => by
  show σ.up p v q = τ.up p v q
  rw [Sl.tS, Sl.tS]
  by_cases e : q = p
  · rw [if_pos e, if_pos e]
  · rw [if_neg e, if_neg e]
    refine h q ?_
    have hq : cI (BF D p) q = false := hq
    rw [Wb] at hq
    simpa [e] using hq
structure Out where
 n : Option Nat
 r : Option Nat
 x : List (Nat × Nat)
def jO : Option Nat → Option Nat → Option Nat
 | none, b => b
 | a, none => a
 | some a, some b => some (a ||| b)
def yi (D : Nat) : dB → Bool
 | .t p => !cI D p
 | .c _ => true
def qt (D : Nat) (o : bh) : Bool := o.args.all (yi D) && (match o.guard with
 | none => true
 | some (g, _) => !cI D g)
def BG : List bh → Nat → Option Nat
 | [], D => some D
 | o :: l, D => bif qt D o then BG l (NX D o.dst) else none
def wj : List iJ → Nat → Option Nat
 | [], D => some D
 | .op _ o :: l, D => bif qt D o then wj l (NX D o.dst) else none
 | .iX _ o :: l, D => bif qt D o && (match o.dst with
  | none => true
  | some q => !cI D q) then wj l D else none
def tT : List bh → Nat → Nat
 | [], D => D
 | o :: l, D => tT l (qs D o.dst)
def o4 : List iJ → Nat → Nat
 | [], D => D
 | .op _ o :: l, D => o4 l (qs D o.dst)
 | .iX _ _ :: l, D => o4 l D
def wr : c7 → Nat → Nat
 | .ops l, D => tT l D
 | .draw l, D => o4 l D
 | .seq a b, D => wr b (wr a D)
 | .cond _ a b, D => wr b (wr a D)
 | .block _ c, D => wr c D
 | .loop c, D => wr c D
 | _, D => D
def sn (id : Nat) : List (Nat × Nat) → Option Nat
 | [] => none
 | (j, D) :: l => bif Nat.beq j id then jO (some D) (sn id l) else sn id l
def yj (id : Nat) : List (Nat × Nat) → List (Nat × Nat)
 | [] => []
 | (j, D) :: l => bif Nat.beq j id then yj id l else (j, D) :: yj id l
def Out.Wd : Option Nat → Option Out
 | none => none
 | some D => some ⟨some D, none, []⟩
def afg (ra : Out) (rb : Option Out) : Option Out := match rb with
 | none => none
 | some rb => some ⟨rb.n, jO ra.r rb.r, ra.x ++ rb.x⟩
def We : Option Out → Option Out → Option Out
 | some ra, some rb => some ⟨jO ra.n rb.n, jO ra.r rb.r, ra.x ++ rb.x⟩
 | _, _ => none
def afh (id : Nat) : Option Out → Option Out
 | none => none
 | some r => some ⟨jO r.n (sn id r.x), r.r, yj id r.x⟩
def sr (D : Nat) : List Pos → Bool
 | [] => true
 | p :: ps => !cI D p && sr D ps
def yk (D : Nat) : List Pos → Bool
 | [] => true
 | p :: ps => cI D p && yk D ps
def GH (ps : List Pos) (D0 : Nat) : Option Out → Option Out
 | none => none
 | some r => (match r.n with
  | none => some ⟨none, r.r, r.x⟩
  | some D1 => bif sr D1 ps && Nat.beq (D1 ||| D0) D0 then some ⟨none, r.r, r.x⟩ else none)
def gU : c7 → List (List Pos) → Nat → Option Out
 | .skip, _, D => some ⟨some D, none, []⟩
 | .ops l, _, D => Out.Wd (BG l D)
 | .draw l, _, D => Out.Wd (wj l D)
 | .seq a b, L, D => (match gU a L D with
  | none => none
  | some ra => (match ra.n with
   | none => some ra
   | some D1 => afg ra (gU b (L.drop (nl a)) D1)))
 | .cond c a b, L, D => bif yi D c then We (gU a L D) (gU b (L.drop (nl a)) D) else none
 | .block id c, L, D => afh id (gU c L D)
 | .loop c, L, D => (match L with
  | [] => none
  | ps :: L => bif sr D ps && yk (wr c 0) ps then GH ps (D ||| jC (wr c 0) ps) (gU c L (D ||| jC (wr c 0) ps)) else none)
 | .exit id, _, D => some ⟨none, none, [(id, D)]⟩
 | .ret, _, D => some ⟨none, some D, []⟩
 | .l4 _ _ _ _, _, _ => none
def Out.at (r : Out) (x : AX) (D : Nat) : Prop := match x with
 | .normal => r.n = some D
 | .ret => r.r = some D
 | .exit id => (id, D) ∈ r.x
 | .aQ _ => False
theorem BH {a b : Option Nat} {A : Nat} (h : a = some A) : ∃ B, jO a b = some (A ||| B) ∧ (b = none → B = 0) := by
 subst h
 cases b with
 | none => exact ⟨0, by simp [jO], fun _ => rfl⟩
 | some b => exact ⟨b, rfl, fun h => by cases h⟩
theorem BI {a b : Option Nat} {B : Nat} (h : b = some B) : ∃ A, jO a b = some (A ||| B) := by
 subst h
 cases a with
 | none => exact ⟨0, by simp [jO]⟩
 | some a => exact ⟨a, rfl⟩
theorem GI {p : Pos} : ∀ {l : List bh} {D : Nat}, cI (tT l D) p = (cI D p || cI (tT l 0) p)
 | [], D => by simp [tT, cI]
 | o :: l, D => by
  rw [tT, tT, GI, GI (D := qs 0 o.dst), ← Bool.or_assoc]
  congr 1
  cases o.dst with
  | none => simp [qs, cI]
  | some q => rw [yg, yg]; simp [cI]
theorem BJ {p : Pos} : ∀ {l : List iJ} {D : Nat}, cI (o4 l D) p = (cI D p || cI (o4 l 0) p)
 | [], D => by simp [o4, cI]
 | .iX _ _ :: l, D => by rw [o4, o4, BJ]
 | .op _ o :: l, D => by
  rw [o4, o4, BJ, BJ (D := qs 0 o.dst), ← Bool.or_assoc]
  congr 1
  cases o.dst with
  | none => simp [qs, cI]
  | some q => rw [yg, yg]; simp [cI]
theorem afi (p : Pos) : cI 0 p = false := by simp [cI]
theorem afj {p : Pos} : ∀ (c : c7) (D : Nat), cI (wr c D) p = (cI D p || cI (wr c 0) p) := by
 intro c
 induction c with
 | ops l => exact fun D => GI
 | draw l => exact fun D => BJ
 | seq a b jB je => intro D; simp only [wr]; rw [je, je (wr a 0), jB, Bool.or_assoc]
 | cond c a b jB je => intro D; simp only [wr]; rw [je, je (wr a 0), jB, Bool.or_assoc]
 | block id c ih => exact ih
 | loop c ih => exact ih
 | _ => intro D; simp only [wr]; rw [afi, Bool.or_false]
def cj (c : c7) (σ σ' : Sl) : Prop := ∀ p, cI (wr c 0) p = false → σ' p = σ p
theorem yn {a b : c7} {p : Pos} (h : cI (wr b (wr a 0)) p = false) : cI (wr a 0) p = false ∧ cI (wr b 0) p = false := by
 rw [afj] at h
 exact Bool.or_eq_false_iff.1 h
theorem NY {D : Nat} {p : Pos} : ∀ {ps : List Pos}, sr D ps = true → p ∈ ps → cI D p = false
 | q :: ps, h, hp => by
  rw [sr, Bool.and_eq_true] at h
  rcases List.mem_cons.1 hp with rfl | hp
  · simpa using h.1
  · exact NY h.2 hp
theorem Wf {D : Nat} {p : Pos} : ∀ {ps : List Pos}, yk D ps = true → p ∈ ps → cI D p = true
 | q :: ps, h, hp => by
  rw [yk, Bool.and_eq_true] at h
  rcases List.mem_cons.1 hp with rfl | hp
  · exact h.1
  · exact Wf h.2 hp
theorem NZ {σ τ : Sl} : ∀ {ps : List Pos}, (∀ p ∈ ps, σ p = τ p) → kr ps σ = kr ps τ
 | [], _ => rfl
 | [p], h => h p (by simp)
 | p :: q :: ps, h => by
  show (σ p, kr (q :: ps) σ) = (τ p, kr (q :: ps) τ)
  rw [h p (by simp), NZ fun x hx => h x (List.mem_cons_of_mem _ hx)]
theorem Wg {σ τ : Sl} {x : Pos} : ∀ {ps : List Pos}, x ∈ ps → sk ps σ (kr ps τ) x = τ x
 | [p], h => by
  obtain rfl := List.mem_singleton.1 h
  show σ.up x (τ x) x = τ x
  rw [Sl.tS, if_pos rfl]
 | p :: q :: ps, h => by
  show (sk (q :: ps) σ (kr (q :: ps) τ)).up p (τ p) x = τ x
  rw [Sl.tS]
  by_cases e : x = p
  · rw [if_pos e, e]
  · rw [if_neg e]
    exact Wg ((List.mem_cons.1 h).resolve_left e)
theorem N0 {σ : Sl} {x : Pos} : ∀ {ps : List Pos} {a : BE ps}, x ∉ ps → sk ps σ a x = σ x
 | [], _, _ => rfl
 | [p], a, h => by
  exact (Sl.tS σ p x a).trans (if_neg (by simpa using h))
 | p :: q :: ps, a, h => by
  show (sk (q :: ps) σ a.2).up p a.1 x = σ x
  rw [Sl.tS, if_neg fun e => h (by simp [e]), N0 fun hx => h (List.mem_cons_of_mem _ hx)]
section
variable {P : Program} {w0 : World} {e : Env} {d : DS}
theorem Wh {D : Nat} {σ τ : Sl} (h : agree D σ τ) {o : dB} (ho : yi D o = true) : dR σ o = dR τ o := by
 cases o with
 | t p => exact h p (by simpa [yi] using ho)
 | c v => rfl
theorem N2 {D : Nat} {σ τ : Sl} (h : agree D σ τ) : ∀ {l : List dB}, l.all (yi D) = true → l.map (dR σ) = l.map (dR τ)
 | [], _ => rfl
 | o :: l, hl => by
  rw [List.all_cons, Bool.and_eq_true] at hl
  rw [List.map_cons, List.map_cons, N2 h hl.2, Wh h hl.1]
theorem Wi {D : Nat} {σ τ : Sl} (h : agree D σ τ) {o : bh} (ho : qt D o = true) {E K : Value → W} : yf P w0 o σ E K = yf P w0 o τ E K := by
 obtain ⟨dst, act, args, g⟩ := o
 rw [qt, Bool.and_eq_true] at ho
 unfold yf
 simp only
 rw [N2 h ho.1]
 cases g with
 | none => rfl
 | some pw =>
  obtain ⟨g, want⟩ := pw
  have h2 : cI D g = false := by simpa using ho.2
  simp only [h g h2]
theorem Wj {act : iI} {dst : Option Pos} {vs : List Value} {σ : Sl} {h : AH} {E K : Value → W} {Q : PQ} {K' : Sl → DS → AH → Prop} (H : GB P w0 act vs E K h) (hE : ∀ v h, E v h → Q (.aQ v) σ d h) (hK : ∀ v h, K v h → K' (σ.eC dst v) d h) : iR P w0 act dst e σ d h vs Q K' := by
 cases act with
 | aC p =>
  simp only [GB] at H
  revert H
  cases hp : p.GA with
  | false => exact fun H => BB (e := e) (Q := Q) H hK
  | true =>
   match vs with
   | [] => exact fun H => BB (e := e) (Q := Q) H hK
   | [x] => intro H; rw [Prim.aff hp]; exact fun k hk => hk _ _ (hK _ _ H)
   | _ :: _ :: _ => exact fun H => BB (e := e) (Q := Q) H hK
 | call f => exact Gr H hE hK
 | dyn => exact VW H hE hK
 | panic => exact aeV H hE
 | _ => exact H.elim
theorem Wl {o : bh} {σ : Sl} {h : AH} {E K : Value → W} {Q : PQ} {K' : Sl → DS → AH → Prop} (H : yf P w0 o σ E K h) (hE : ∀ v h, E v h → Q (.aQ v) σ d h) (hK : ∀ v h, K v h → K' (σ.eC o.dst v) d h) : wpOp P w0 o e σ d h Q K' := by
 obtain ⟨dst, act, args, g⟩ := o
 cases g with
 | none => exact Wj H hE hK
 | some pw => exact Gs rfl H (fun H => Wj H hE hK) hK
theorem afk {E : Value → W} {N : Sl → W} {Q : PQ} (hE : ∀ v σ h, E v h → Q (.aQ v) σ d h) : ∀ {l : List bh} {D D' : Nat} {σm σ : Sl} {h : AH}, BG l D = some D' → agree D σm σ → GC P w0 l σm E N h →
 (∀ σm' σ' h, agree D' σm' σ' → cj (.ops l) σm σm' → N σm' h → Q .normal σ' d h) → wpOps P w0 l e σ d h Q := by
 intro l
 induction l with
 | nil =>
  intro D D' σm σ h hc ha H hN
  obtain rfl := Option.some.inj hc
  exact hN _ _ _ ha (fun _ _ => rfl) H
 | cons o l ih =>
  intro D D' σm σ h hc ha H hN
  unfold BG at hc
  cases ho : qt D o with
  | false => rw [ho] at hc; cases hc
  | true =>
   rw [ho] at hc
   unfold GC at H
   rw [Wi ha ho] at H
   refine Wl H (fun v h => hE v σ h) fun v h H => ih hc (ha.up o.dst v) H fun σm' σ' h h1 h2 h3 => hN _ _ _ h1 (fun p hp => ?_) h3
   have hp : cI (tT l (qs 0 o.dst)) p = false := hp
   rw [GI, Bool.or_eq_false_iff] at hp
   rw [h2 p hp.2]
   revert hp
   cases o.dst with
   | none => exact fun _ => rfl
   | some q =>
    intro hp
    have h4 := hp.1
    rw [yg, Bool.or_eq_false_iff] at h4
    show σm.up q v p = σm p
    rw [Sl.tS, if_neg (by simpa using h4.2)]
theorem afl {D : Nat} {o : bh} {σm σ : Sl} {h : AH} {K : W} (ho : qt D o = true) (hd : (match o.dst with
 | none => true
 | some q => !cI D q) = true) (ha : agree D σm σ) (H : GF o σm K h) : vY o σ h ∧ K h := by
 obtain ⟨dst, act, args, g⟩ := o
 rw [qt, Bool.and_eq_true] at ho
 have e1 := N2 ha ho.1
 cases act with
 | aC p =>
  cases dst with
  | none => exact H.elim
  | some q =>
   have e2 : σm q = σ q := ha q (by simpa using hd)
   have cc : GD p (args.map (dR σ)) (σ q) K h → tI (.aC p) (some q) (args.map (dR σ)) σ h ∧ K h := by
    unfold GD tI
    simp only
    cases p.makes with
    | true => exact id
    | false => exact id
   cases g with
   | none =>
    simp only [GF, e1, e2] at H
    exact cc H
   | some pw =>
    obtain ⟨g, want⟩ := pw
    have e3 : σm g = σ g := ha g (by simpa using ho.2)
    simp only [GF, e1, e2, e3] at H
    exact aeW rfl H cc
 | _ => cases dst <;> exact H.elim
theorem afm {E : Value → W} {N : Sl → W} {Q : PQ} (hE : ∀ v σ h, E v h → Q (.aQ v) σ d h) : ∀ {l : List iJ} {D D' : Nat} {σm σ : Sl} {h : AH}, wj l D = some D' → agree D σm σ → BD P w0 l σm E N h →
 (∀ σm' σ' h, agree D' σm' σ' → cj (.draw l) σm σm' → N σm' h → Q .normal σ' d h) → jA P w0 l e σ d h Q := by
 intro l
 induction l with
 | nil =>
  intro D D' σm σ h hc ha H hN
  obtain rfl := Option.some.inj hc
  exact hN _ _ _ ha (fun _ _ => rfl) H
 | cons o l ih =>
  intro D D' σm σ h hc ha H hN
  cases o with
  | iX i o =>
   unfold wj at hc
   cases ho : (qt D o && (match o.dst with
    | none => true
    | some q => !cI D q)) with
   | false => rw [ho] at hc; cases hc
   | true =>
    rw [ho] at hc
    rw [Bool.and_eq_true] at ho
    have H2 := afl ho.1 ho.2 ha H
    exact ⟨H2.1, ih hc ha H2.2 hN⟩
  | op i o =>
   unfold wj at hc
   cases ho : qt D o with
   | false => rw [ho] at hc; cases hc
   | true =>
    rw [ho] at hc
    unfold BD at H
    rw [Wi ha ho] at H
    refine Wl H (fun v h => hE v σ h) fun v h H => ih hc (ha.up o.dst v) H fun σm' σ' h h1 h2 h3 => hN _ _ _ h1 (fun p hp => ?_) h3
    have hp : cI (o4 l (qs 0 o.dst)) p = false := hp
    rw [BJ, Bool.or_eq_false_iff] at hp
    rw [h2 p hp.2]
    revert hp
    cases o.dst with
    | none => exact fun _ => rfl
    | some q =>
     intro hp
     have h4 := hp.1
     rw [yg, Bool.or_eq_false_iff] at h4
     show σm.up q v p = σm p
     rw [Sl.tS, if_neg (by simpa using h4.2)]
theorem Wm {id D : Nat} : ∀ {l : List (Nat × Nat)} {j : Nat}, (j, D) ∈ l → Nat.beq j id = true → ∃ G, sn id l = some G ∧ ∀ σ τ : Sl, agree D σ τ → agree G σ τ
 | (i, A) :: l, j, hm, hj => by
  rcases List.mem_cons.1 hm with e | hm
  · obtain ⟨rfl, rfl⟩ := Prod.mk.inj e
    obtain ⟨B, hB, _⟩ := BH (a := some D) (b := sn id l) rfl
    exact ⟨_, by rw [sn, hj]; exact hB, fun σ τ h => h.or⟩
  · obtain ⟨G, h1, h2⟩ := Wm hm hj
    cases hi : Nat.beq i id with
    | false => exact ⟨G, by rw [sn, hi]; exact h1, h2⟩
    | true =>
     obtain ⟨A', hA⟩ := BI (a := some A) h1
     exact ⟨_, by rw [sn, hi]; exact hA, fun σ τ h => (h2 σ τ h).or'⟩
theorem Wn {id D : Nat} : ∀ {l : List (Nat × Nat)} {j : Nat}, (j, D) ∈ l → Nat.beq j id = false → (j, D) ∈ yj id l
 | (i, A) :: l, j, hm, hj => by
  rcases List.mem_cons.1 hm with e | hm
  · obtain ⟨rfl, rfl⟩ := Prod.mk.inj e
    rw [yj, hj]
    exact List.mem_cons_self
  · have := Wn hm hj
    rw [yj]
    cases Nat.beq i id with
    | true => exact this
    | false => exact List.mem_cons_of_mem _ this
theorem afn (bF : P.follows .mixedOrders = true) : ∀ (c : c7) {L : List (List Pos)} {D : Nat} {r : Out} {σm σ : Sl} {h : AH} {E : Value → W} {X : AX → Sl → W} {Q : PQ}, gU c L D = some r → agree D σm σ → cF P w0 c L σm E X h →
 (∀ v σ h, E v h → Q (.aQ v) σ d h) → (∀ x D' σm' σ' h, r.at x D' → agree D' σm' σ' → cj c σm σm' → X x σm' h → Q x σ' d h) → dS P w0 c e σ d h Q := by
 intro c
 induction c with
 | skip =>
  intro L D r σm σ h E X Q hc ha H hE hX
  obtain rfl := Option.some.inj hc
  exact hX .normal D _ _ _ rfl ha (fun _ _ => rfl) H
 | ops l =>
  intro L D r σm σ h E X Q hc ha H hE hX
  unfold gU at hc
  cases hD : BG l D with
  | none => rw [hD] at hc; cases hc
  | some D' =>
   rw [hD] at hc
   obtain rfl := Option.some.inj hc
   exact afk hE hD ha H fun σm' σ' h h1 h2 h3 => hX .normal D' _ _ _ rfl h1 h2 h3
 | draw l =>
  intro L D r σm σ h E X Q hc ha H hE hX
  unfold gU at hc
  cases hD : wj l D with
  | none => rw [hD] at hc; cases hc
  | some D' =>
   rw [hD] at hc
   obtain rfl := Option.some.inj hc
   exact afm hE hD ha H fun σm' σ' h h1 h2 h3 => hX .normal D' _ _ _ rfl h1 h2 h3
 | seq a b jB je =>
  intro L D r σm σ h E X Q hc ha H hE hX
  unfold gU at hc
  cases hA : gU a L D with
  | none => rw [hA] at hc; cases hc
  | some ra =>
   rw [hA] at hc
   simp only at hc
   cases hn : ra.n with
   | none =>
    rw [hn] at hc
    obtain rfl := Option.some.inj hc
    refine jB hA ha H hE fun x D' σm' σ' h h1 h2 h3 h4 => ?_
    have hk : cj (.seq a b) σm σm' := fun p hp => h3 p (yn hp).1
    cases x with
    | normal => exact absurd (hn.symm.trans h1) nofun
    | ret => exact hX .ret D' _ _ _ h1 h2 hk h4
    | exit id => exact hX (.exit id) D' _ _ _ h1 h2 hk h4
    | aQ v => exact h1.elim
   | some D1 =>
    rw [hn] at hc
    simp only at hc
    cases hB : gU b (L.drop (nl a)) D1 with
    | none => rw [hB] at hc; cases hc
    | some rb =>
     rw [hB] at hc
     obtain rfl := Option.some.inj hc
     refine jB hA ha H hE fun x D' σm' σ' h h1 h2 h3 h4 => ?_
     have hk : cj (.seq a b) σm σm' := fun p hp => h3 p (yn hp).1
     cases x with
     | normal =>
      obtain rfl := Option.some.inj (hn.symm.trans h1)
      refine je hB h2 h4 hE fun x D' σm2 σ2 h g1 g2 g3 g4 => ?_
      have AF : cj (.seq a b) σm σm2 := fun p hp => (g3 p (yn hp).2).trans (h3 p (yn hp).1)
      cases x with
      | normal => exact hX .normal D' _ _ _ g1 g2 AF g4
      | ret =>
       obtain ⟨A, hA⟩ := BI (a := ra.r) g1
       exact hX .ret _ _ _ _ hA g2.or' AF g4
      | exit id => exact hX (.exit id) D' _ _ _ (List.mem_append_right _ g1) g2 AF g4
      | aQ v => exact g1.elim
     | ret =>
      obtain ⟨B, hB, _⟩ := BH (b := rb.r) h1
      exact hX .ret _ _ _ _ hB h2.or hk h4
     | exit id => exact hX (.exit id) D' _ _ _ (List.mem_append_left _ h1) h2 hk h4
     | aQ v => exact h1.elim
 | cond o a b jB je =>
  intro L D r σm σ h E X Q hc ha H hE hX
  unfold gU at hc
  cases ho : yi D o with
  | false => rw [ho] at hc; cases hc
  | true =>
   rw [ho] at hc
   have hc : We (gU a L D) (gU b (L.drop (nl a)) D) = some r := hc
   cases hA : gU a L D with
   | none => rw [hA] at hc; cases hc
   | some ra =>
    cases hB : gU b (L.drop (nl a)) D with
    | none => rw [hA, hB] at hc; cases hc
    | some rb =>
     rw [hA, hB] at hc
     obtain rfl := Option.some.inj hc
     unfold cF at H
     rw [Wh ha ho] at H
     refine lZ rfl H (fun H => jB hA ha H hE fun x D' σm' σ' h h1 h2 h3 h4 => ?_) (fun H => je hB ha H hE fun x D' σm' σ' h h1 h2 h3 h4 => ?_)
     · have hk : cj (.cond o a b) σm σm' := fun p hp => h3 p (yn hp).1
       cases x with
       | normal =>
        obtain ⟨B, hB, _⟩ := BH (b := rb.n) h1
        exact hX .normal _ _ _ _ hB h2.or hk h4
       | ret =>
        obtain ⟨B, hB, _⟩ := BH (b := rb.r) h1
        exact hX .ret _ _ _ _ hB h2.or hk h4
       | exit id => exact hX (.exit id) D' _ _ _ (List.mem_append_left _ h1) h2 hk h4
       | aQ v => exact h1.elim
     · have hk : cj (.cond o a b) σm σm' := fun p hp => h3 p (yn hp).2
       cases x with
       | normal =>
        obtain ⟨A, hA⟩ := BI (a := ra.n) h1
        exact hX .normal _ _ _ _ hA h2.or' hk h4
       | ret =>
        obtain ⟨A, hA⟩ := BI (a := ra.r) h1
        exact hX .ret _ _ _ _ hA h2.or' hk h4
       | exit id => exact hX (.exit id) D' _ _ _ (List.mem_append_right _ h1) h2 hk h4
       | aQ v => exact h1.elim
 | block id c ih =>
  intro L D r σm σ h E X Q hc ha H hE hX
  unfold gU at hc
  cases hC : gU c L D with
  | none => rw [hC] at hc; cases hc
  | some rc =>
   rw [hC] at hc
   obtain rfl := Option.some.inj hc
   refine ih hC ha H hE fun x D' σm' σ' h h1 h2 h3 h4 => ?_
   cases x with
   | normal =>
    obtain ⟨B, hB, _⟩ := BH (b := sn id rc.x) h1
    exact hX .normal _ _ _ _ hB h2.or h3 h4
   | ret => exact hX .ret D' _ _ _ h1 h2 h3 h4
   | exit j =>
    have h4 : (bif Nat.beq j id then X .normal σm' else X (.exit j) σm') h := h4
    show bif Nat.beq j id then Q .normal σ' d h else Q (.exit j) σ' d h
    cases hj : Nat.beq j id with
    | true =>
     rw [hj] at h4
     obtain ⟨G, hG, hm⟩ := Wm h1 hj
     obtain ⟨A, hA⟩ := BI (a := rc.n) hG
     exact hX .normal _ _ _ _ hA (hm _ _ h2).or' h3 h4
    | false =>
     rw [hj] at h4
     exact hX (.exit j) D' _ _ _ (Wn h1 hj) h2 h3 h4
   | aQ v => exact h1.elim
 | loop c ih =>
  intro L D r σm σ h E X Q hc ha H hE hX
  cases L with
  | nil => cases hc
  | cons ps L =>
   have hc : (bif sr D ps && yk (wr c 0) ps then GH ps (D ||| jC (wr c 0) ps) (gU c L (D ||| jC (wr c 0) ps)) else none) = some r := hc
   cases eZ : sr D ps && yk (wr c 0) ps with
   | false => rw [eZ] at hc; cases hc
   | true =>
    rw [eZ] at hc
    have hc : GH ps (D ||| jC (wr c 0) ps) (gU c L (D ||| jC (wr c 0) ps)) = some r := hc
    rw [Bool.and_eq_true] at eZ
    cases hC : gU c L (D ||| jC (wr c 0) ps) with
    | none => rw [hC] at hc; cases hc
    | some rc =>
     rw [hC] at hc
     have fit : ∀ σ', (∀ p, cI (D ||| jC (wr c 0) ps) p = false → p ∉ ps → σm p = σ' p) → agree (D ||| jC (wr c 0) ps) (sk ps σm (kr ps σ')) σ' := fun σ' hh p hp => by
      by_cases hm : p ∈ ps
      · exact Wg hm
      · rw [N0 hm]; exact hh p hp hm
     have out : ∀ p, cI (D ||| jC (wr c 0) ps) p = false → p ∉ ps → cI D p = false ∧ cI (wr c 0) p = false := fun p hp hm => by
      rw [GG, Bool.or_eq_false_iff, Wc] at hp
      exact ⟨hp.1, by simpa [hm] using hp.2⟩
     have N3 : r.r = rc.r ∧ r.x = rc.x ∧ ∀ D1, rc.n = some D1 → sr D1 ps = true ∧ Nat.beq (D1 ||| (D ||| jC (wr c 0) ps)) (D ||| jC (wr c 0) ps) = true := by
      unfold GH at hc
      simp only at hc
      cases hn : rc.n with
      | none =>
       rw [hn] at hc
       obtain rfl := Option.some.inj hc
       exact ⟨rfl, rfl, nofun⟩
      | some D1 =>
       rw [hn] at hc
       simp only at hc
       cases ht : sr D1 ps && Nat.beq (D1 ||| (D ||| jC (wr c 0) ps)) (D ||| jC (wr c 0) ps) with
       | false => rw [ht] at hc; cases hc
       | true =>
        rw [ht] at hc
        obtain rfl := Option.some.inj hc
        exact ⟨rfl, rfl, fun D2 h2 => by obtain rfl := Option.some.inj h2; exact Bool.and_eq_true_iff.1 ht⟩
     obtain ⟨n, H⟩ := H
     have key : ∀ n σh h, agree (D ||| jC (wr c 0) ps) (sk ps σm (kr ps σh)) σh → jX (fun k a => cF P w0 c L (sk ps σm a) E fun x σ => match x with
      | .normal => k (kr ps σ)
      | x => X x σ) n (kr ps σh) h → WC P w0 (.loop c) e σh d h Q := by
      intro n
      induction n with
      | zero => intro σh h _ H; exact H.elim
      | succ n ihn =>
       intro σh h hh H
       refine VP bF (ih hC hh H hE fun x D' σm' σ' h h1 h2 h3 h4 => ?_)
       have hk : cj (.loop c) σm σm' := fun p hp => (h3 p hp).trans (N0 fun hm => by
        have := Wf eZ.2 hm
        rw [show cI (wr c 0) p = false from hp] at this
        cases this)
       cases x with
       | normal =>
        obtain ⟨q1, q2⟩ := N3.2.2 D' h1
        have e1 : kr ps σm' = kr ps σ' := NZ fun p hp => h2 p (NY q1 hp)
        refine ihn σ' h (fit σ' fun p hp hm => ?_) (e1 ▸ h4)
        rw [← hk p (out p hp hm).2]
        refine h2 p ?_
        have e2 := Nat.eq_of_beq_eq_true q2
        rw [← e2, GG, Bool.or_eq_false_iff] at hp
        exact hp.1
       | ret => exact hX .ret D' _ _ _ (N3.1.trans h1) h2 hk h4
       | exit id => exact hX (.exit id) D' _ _ _ (show (id, D') ∈ r.x by rw [N3.2.1]; exact h1) h2 hk h4
       | aQ v => exact h1.elim
     have e0 : kr ps σm = kr ps σ := NZ fun p hp => ha p (NY eZ.1 hp)
     exact key n σ h (fit σ fun p hp hm => ha p (out p hp hm).1) (e0 ▸ H)
 | l4 f ps a b jB je =>
  intro L D r σm σ h E X Q hc
  cases hc
 | exit id =>
  intro L D r σm σ h E X Q hc ha H hE hX
  obtain rfl := Option.some.inj hc
  exact hX (.exit id) D _ _ _ (List.mem_singleton.2 rfl) ha (fun _ _ => rfl) H
 | ret =>
  intro L D r σm σ h E X Q hc ha H hE hX
  obtain rfl := Option.some.inj hc
  exact hX .ret D _ _ _ rfl ha (fun _ _ => rfl) H
def qu (D : Nat) : List kQ → Bool
 | [] => true
 | .tmp p :: rs => !cI D p && qu D rs
 | .cell p _ :: rs => !cI D p && qu D rs
theorem BK {D : Nat} {σ τ : Sl} (ha : agree D σ τ) {h : AH} : ∀ {rs : List kQ} {K : List Value → Prop}, qu D rs = true → lK rs σ h K = lK rs τ h K
 | [], _, _ => rfl
 | .tmp p :: rs, K, hd => by
  rw [qu, Bool.and_eq_true] at hd
  unfold lK
  rw [ha p (by simpa using hd.1), BK ha hd.2]
 | .cell p none :: rs, K, hd => by
  rw [qu, Bool.and_eq_true] at hd
  unfold lK
  rw [ha p (by simpa using hd.1)]
  congr 1
  funext v h'
  rw [BK ha hd.2]
 | .cell p (some n) :: rs, K, hd => by
  rw [qu, Bool.and_eq_true] at hd
  unfold lK
  rw [ha p (by simpa using hd.1)]
  congr 1
  funext v h'
  rw [BK ha hd.2]
def Wo (af : gn) (L : List (List Pos)) : Bool := match gU af.code L 0 with
 | none => false
 | some r => (match r.n with
  | none => true
  | some D => qu D af.results) && (match r.r with
  | none => true
  | some D => qu D af.results)
theorem fh (bF : P.follows .mixedOrders = true) {f : FuncId} {af : gn} (hf : bW P f = some af) (L : List (List Pos)) (hd : Wo af L = true) {args : List Value} {h : AH} {R : CR → AH → Prop}
 (H : cF P w0 af.code L (F9 args) (fun v h => R (.aQ v) h) (fun x σ h => By P w0 af.results R x σ ⟨[], .off⟩ h) h) : WF P w0 f args h R := by
 refine zN bF hf ?_
 unfold Wo at hd
 cases hc : gU af.code L 0 with
 | none => rw [hc] at hd; cases hd
 | some r =>
  rw [hc] at hd
  simp only [Bool.and_eq_true] at hd
  refine afn bF af.code hc (fun _ _ => rfl) H (fun v σ h hv => hv) fun x D' σm' σ' h h1 h2 _ h4 => ?_
  cases x with
  | normal =>
   have h5 : qu D' af.results = true := by have := hd.1; rw [show r.n = some D' from h1] at this; exact this
   have h4 : lK af.results σm' h fun vs => R (.ret (wb vs)) h := h4
   rw [BK h2 h5] at h4
   exact h4
  | ret =>
   have h5 : qu D' af.results = true := by have := hd.2; rw [show r.r = some D' from h1] at this; exact this
   have h4 : lK af.results σm' h fun vs => R (.ret (wb vs)) h := h4
   rw [BK h2 h5] at h4
   exact h4
  | exit id => exact h4.elim
  | aQ v => exact h1.elim
end
end
end Go.Ve
namespace Go.Ve.T
open Go.Ve Go.Proofs
noncomputable section
set_option maxRecDepth 10000
def Q6 (w0 : World) (E R : Value → W) (x0 x1 x2 : Value) : W :=
 pr (.aD .leq) [x1, x0] fun v1 =>
 gd v1 true (fun k => k x0) fun v2 =>
 gd v1 true (fun k => k x2) fun v3 =>
 gd v1 true (fun k => pr (.aD .leq) [v2, v3] k) fun v4 =>
 pr (.pick) [v1, v4, (.bool false)] fun v5 =>
 R v5
theorem ZU {w0 : World} {h : AH} {Q : CR → AH → Prop} (x0 x1 x2 : Value) (H : Q6 w0 (fun v h => Q (.aQ v) h) (fun v h => Q (.ret v) h) x0 x1 x2 h) : WF PP w0 pO [x0, x1, x2] h Q :=
 fh bF ZV [] (by kernel_rfl) (Eq.mp (by kernel_rfl) H)
def IK (w0 : World) (E R : Value → W)  : W :=
 R (vi (-1))
def IL (w0 : World) (E R : Value → W) (y3 : Value) (k2 : Value → W) : W :=
 pr (.aD .add) [y3, (vi 1)] fun v5 =>
 k2 v5
def IM (w0 : World) (E R : Value → W) (x0 y3 x1 : Value) (k2 : Value → W) : W :=
 pr (.cS 1) [x0, y3] fun v6 =>
 pr (.ay) [v6] fun v7 =>
 dy PP w0 [x1, v7] E fun v8 =>
 br v8 (
 R y3) (
 IL w0 E R y3 k2)
def DP (w0 : World) (E R : Value → W) (v1 x0 x1 : Value) (k2 : Value → W) (y3 : Value) : W :=
 pr (.aD .lss) [y3, v1] fun v4 =>
 br v4 (
 IM w0 E R x0 y3 x1 k2) (
 IK w0 E R )
def Q7 (w0 : World) (E R : Value → W) (x0 x1 : Value) : W :=
 pr (.di) [x0] fun v1 =>
 LP (α := Value) (fun k a => DP w0 E R v1 x0 x1 k a) ((vi 0))
theorem ZW {w0 : World} {h : AH} {Q : CR → AH → Prop} (x0 x1 : Value) (H : Q7 w0 (fun v h => Q (.aQ v) h) (fun v h => Q (.ret v) h) x0 x1 h) : WF PP w0 IN [x0, x1] h Q :=
 fh bF ZX [[s8]] (by kernel_rfl) (Eq.mp (by kernel_rfl) H)
def Q8 (w0 : World) (E R : Value → W) (x0 x1 : Value) : W :=
 cl PP w0 IN [x0, x1] E fun v1 =>
 pr (.aD .geq) [v1, (vi 0)] fun v2 =>
 R v2
theorem ZY {w0 : World} {h : AH} {Q : CR → AH → Prop} (x0 x1 : Value) (H : Q8 w0 (fun v h => Q (.aQ v) h) (fun v h => Q (.ret v) h) x0 x1 h) : WF PP w0 IP [x0, x1] h Q :=
 fh bF ZZ [] (by kernel_rfl) (Eq.mp (by kernel_rfl) H)
def Q9 (w0 : World) (E R : Value → W) (x0 v1 : Value) : W :=
 cl PP w0 Ra [] E fun v2 =>
 pr (.IQ 35 9) [v2, x0] fun v3 =>
 pr (.store 9) [v1, v3] fun v4 =>
 ld (.bL 9) [v1] fun v5 =>
 R (.tuple ⟨[v5, (.bool true)]⟩)
def DQ (w0 : World) (E R : Value → W) (v1 x0 v9 : Value) : W :=
 br v9 (
 pr (.build [(bs []), (vi 0), (vi 0), (vi 0), (vi 0), (vi 0), (vi 0), (.bool false), (.bool false)] []) [] fun v10 =>
 pr (.store 9) [v1, v10] fun v11 =>
 ld (.bL 9) [v1] fun v12 =>
 R (.tuple ⟨[v12, (.bool false)]⟩)) (
 Q9 w0 E R x0 v1)
def Rb (w0 : World) (E R : Value → W) (x0 : Value) : W :=
 pr (.alloc 138 [(bs []), (vi 0), (vi 0), (vi 0), (vi 0), (vi 0), (vi 0), (.bool false), (.bool false)]) [] fun v1 =>
 pr (.aD .lss) [x0, (vi 1)] fun v6 =>
 gd v6 false (fun k => k x0) fun v7 =>
 gd v6 false (fun k => pr (.aD .gtr) [v7, (vi 34)] k) fun v8 =>
 pr (.pick) [v6, (.bool true), v8] fun v9 =>
 DQ w0 E R v1 x0 v9
theorem Z0 {w0 : World} {h : AH} {Q : CR → AH → Prop} (x0 : Value) (H : Rb w0 (fun v h => Q (.aQ v) h) (fun v h => Q (.ret v) h) x0 h) : WF PP w0 uQ [x0] h Q :=
 fh bF Z1 [] (by kernel_rfl) (Eq.mp (by kernel_rfl) H)
def Re (w0 : World) (E R : Value → W) (x0 : Value) : W :=
 pr (.box 67) [x0] fun v1 =>
 pr (.alloc 135 [(vi 0), (vi 0), (vi 0)]) [] fun v2 =>
 pr (.fieldAddr 1) [v1] fun v3 =>
 pr (.ay) [v3] fun v4 =>
 pr (.fieldAddr 2) [v1] fun v5 =>
 pr (.ay) [v5] fun v6 =>
 pr (.fieldAddr 3) [v1] fun v7 =>
 pr (.ay) [v7] fun v8 =>
 pr (.cY [1, 1, 1]) [v4, v6, v8] fun v9 =>
 pr (.store 3) [v2, v9] fun v10 =>
 ld (.bL 3) [v2] fun v11 =>
 R v11
theorem Z2 {w0 : World} {h : AH} {Q : CR → AH → Prop} (x0 : Value) (H : Re w0 (fun v h => Q (.aQ v) h) (fun v h => Q (.ret v) h) x0 h) : WF PP w0 IS [x0] h Q :=
 fh bF Z3 [] (by kernel_rfl) (Eq.mp (by kernel_rfl) H)
def IT (w0 : World) (E R : Value → W) (y9 : Value) : W :=
 R y9
def DT (w0 : World) (E R : Value → W) (ak : Value) (lr : Value → Value → W) (cG : Value) : W :=
 pr (.aD .add) [ak, (vi 1)] fun eD =>
 lr cG eD
def IU (w0 : World) (E R : Value → W) (v11 ak v1 az : Value) (lr : Value → Value → W) : W :=
 pr (.zI 3) [v11, ak] fun dX =>
 pr (.aD .eql) [dX, (vi 3)] fun dw =>
 br dw (
 pr (.bL 4) [v1] fun v20 =>
 cl PP w0 IS [v20] E fun v21 =>
 pr (.zI 3) [v21, ak] fun bG =>
 pr (.buildSlice 3 1 [(vi 0)] [(0,1)]) [bG] fun cn =>
 pr (.append 3 1 [(vi 0)]) [az, cn] fun v24 =>
 DT w0 E R ak lr v24) (
 DT w0 E R ak lr az)
def DU (w0 : World) (E R : Value → W) (v11 v1 : Value) (lr : Value → Value → W) (az ak : Value) : W :=
 pr (.aD .lss) [ak, (vi 3)] fun ee =>
 br ee (
 IU w0 E R v11 ak v1 az lr) (
 IT w0 E R  az)
def Rf (w0 : World) (E R : Value → W) (x0 : Value) : W :=
 pr (.box 67) [x0] fun v1 =>
 pr (.fieldAddr 0) [v1] fun v2 =>
 pr (.ay) [v2] fun v3 =>
 cl PP w0 uQ [v3] E fun v4 =>
 pr (.extract 0) [v4] fun v5 =>
 pr (.extract 1) [v4] fun v6 =>
 pr (.alloc 138 [(bs []), (vi 0), (vi 0), (vi 0), (vi 0), (vi 0), (vi 0), (.bool false), (.bool false)]) [] fun v7 =>
 pr (.store 9) [v7, v5] fun v8 =>
 pr (.fieldAddr 1) [v7] fun v10 =>
 pr (.bL 3) [v10] fun v11 =>
 LP (α := Value × Value) (fun k a => DU w0 E R v11 v1 (fun b0 b1 => k (b0, b1)) a.1 a.2) (bN, (vi 0))
theorem Z4 {w0 : World} {h : AH} {Q : CR → AH → Prop} (x0 : Value) (H : Rf w0 (fun v h => Q (.aQ v) h) (fun v h => Q (.ret v) h) x0 h) : WF PP w0 DV [x0] h Q :=
 fh bF Z5 [[s5, kJ]] (by kernel_rfl) (Eq.mp (by kernel_rfl) H)
def Rg (w0 : World) (E R : Value → W) (x0 x1 : Value) : W :=
 pr (.box 79) [x0] fun v1 =>
 pr (.fieldAddr 0) [v1] fun v2 =>
 pr (.ay) [v2] fun v3 =>
 pr (.ay) [x1] fun v4 =>
 pr (.aD .leq) [v3, v4] fun v5 =>
 gd v5 true (fun k => pr (.ay) [x1] k) fun v6 =>
 gd v5 true (fun k => pr (.fieldAddr 1) [v1] k) fun v7 =>
 gd v5 true (fun k => pr (.ay) [v7] k) fun v8 =>
 gd v5 true (fun k => pr (.aD .lss) [v6, v8] k) fun v9 =>
 pr (.pick) [v5, v9, (.bool false)] fun v10 =>
 R v10
theorem Z6 {w0 : World} {h : AH} {Q : CR → AH → Prop} (x0 x1 : Value) (H : Rg w0 (fun v h => Q (.aQ v) h) (fun v h => Q (.ret v) h) x0 x1 h) : WF PP w0 DW [x0, x1] h Q :=
 fh bF Z7 [] (by kernel_rfl) (Eq.mp (by kernel_rfl) H)
def IV (w0 : World) (E R : Value → W)  : W :=
 R (vi (-1))
def IW (w0 : World) (E R : Value → W) (y3 : Value) (k2 : Value → W) : W :=
 pr (.aD .add) [y3, (vi 1)] fun v5 =>
 k2 v5
def IX (w0 : World) (E R : Value → W) (x0 y3 x1 : Value) (k2 : Value → W) : W :=
 pr (.cS 3) [x0, y3] fun v6 =>
 pr (.bL 3) [v6] fun v7 =>
 dy PP w0 [x1, v7] E fun v8 =>
 br v8 (
 R y3) (
 IW w0 E R y3 k2)
def DX (w0 : World) (E R : Value → W) (v1 x0 x1 : Value) (k2 : Value → W) (y3 : Value) : W :=
 pr (.aD .lss) [y3, v1] fun v4 =>
 br v4 (
 IX w0 E R x0 y3 x1 k2) (
 IV w0 E R )
def Rh (w0 : World) (E R : Value → W) (x0 x1 : Value) : W :=
 pr (.di) [x0] fun v1 =>
 LP (α := Value) (fun k a => DX w0 E R v1 x0 x1 k a) ((vi 0))
theorem Z8 {w0 : World} {h : AH} {Q : CR → AH → Prop} (x0 x1 : Value) (H : Rh w0 (fun v h => Q (.aQ v) h) (fun v h => Q (.ret v) h) x0 x1 h) : WF PP w0 DY [x0, x1] h Q :=
 fh bF Z9 [[s8]] (by kernel_rfl) (Eq.mp (by kernel_rfl) H)
def Ri (w0 : World) (E R : Value → W) (x0 x1 : Value) : W :=
 pr (.box 25) [x0] fun v1 =>
 pr (.box 3) [x1] fun v2 =>
 pr (.fieldAddr 6) [v1] fun v3 =>
 pr (.ay) [v3] fun v4 =>
 pr (.uR (.func DW) 0) [v2] fun v5 =>
 cl PP w0 DY [v4, v5] E fun v6 =>
 R v6
theorem aaa {w0 : World} {h : AH} {Q : CR → AH → Prop} (x0 x1 : Value) (H : Ri w0 (fun v h => Q (.aQ v) h) (fun v h => Q (.ret v) h) x0 x1 h) : WF PP w0 DZ [x0, x1] h Q :=
 fh bF e93 [] (by kernel_rfl) (Eq.mp (by kernel_rfl) H)
def IY (w0 : World) (E R : Value → W) (x1 eD x0 bG : Value) : W :=
 br bG (
 pr (.fieldAddr 6) [x1] fun cn =>
 pr (.ay) [cn] fun v24 =>
 pr (.cS 3) [v24, eD] fun jJ =>
 pr (.fieldAddr 2) [jJ] fun aW =>
 pr (.ay) [aW] fun iE =>
 dy PP w0 [x0, iE, (vi 2)] E fun v28 =>
 R (.tuple ⟨[]⟩)) (
 R (.tuple ⟨[]⟩))
def IZ (w0 : World) (E R : Value → W) (x1 x2 ct x0 : Value) : W :=
 pr (.bL 7) [x1] fun ee =>
 pr (.ay) [x2] fun hZ =>
 cl PP w0 DZ [ee, hZ] E fun eD =>
 pr (.fieldAddr 7) [ct] fun dX =>
 pr (.ay) [dX] fun dw =>
 gd dw true (fun k => k eD) fun v20 =>
 gd dw true (fun k => pr (.aD .geq) [v20, (vi 0)] k) fun v21 =>
 pr (.pick) [dw, v21, (.bool false)] fun bG =>
 IY w0 E R x1 eD x0 bG
def Rj (w0 : World) (E R : Value → W) (uS : Value) (zJ : Value → W) : W :=
 pr (.aD .add) [uS, (vi 1)] fun eM =>
 zJ eM
def Rk (w0 : World) (E R : Value → W) (v30 uS x0 : Value) (zJ : Value → W) : W :=
 pr (.cS 1) [v30, uS] fun kK =>
 pr (.ay) [kK] fun v37 =>
 dy PP w0 [x0, v37, (vi 1)] E fun iF =>
 pr (.eE) [iF] fun eF =>
 br eF (
 R (.tuple ⟨[]⟩)) (
 Rj w0 E R uS zJ)
def Rl (w0 : World) (E R : Value → W) (v31 v30 x0 x1 x2 ct : Value) (zJ : Value → W) (uS : Value) : W :=
 pr (.aD .lss) [uS, v31] fun fZ =>
 br fZ (
 Rk w0 E R v30 uS x0 zJ) (
 IZ w0 E R x1 x2 ct x0)
def I3 (w0 : World) (E R : Value → W) (v6 x0 x1 x2 ct : Value) : W :=
 pr (.bL 4) [v6] fun dz =>
 cl PP w0 DV [dz] E fun v30 =>
 pr (.di) [v30] fun v31 =>
 LP (α := Value) (fun k a => Rl w0 E R v31 v30 x0 x1 x2 ct k a) ((vi 0))
def zK (w0 : World) (E R : Value → W) (v6 x0 x1 x2 ct jq : Value) : W :=
 br jq (
 R (.tuple ⟨[]⟩)) (
 I3 w0 E R v6 x0 x1 x2 ct)
def I4 (w0 : World) (E R : Value → W) (x0 x2 v6 x1 ct v49 : Value) : W :=
 gd v49 true (fun k => k x0) fun bH =>
 gd v49 true (fun k => pr (.ay) [x2] k) fun v51 =>
 gd v49 true (fun k => pr (.aD .add) [v51, (vi 1)] k) fun gB =>
 gd v49 true (fun k => dy PP w0 [bH, gB, (vi 0)] E k) fun v53 =>
 gd v49 true (fun k => pr (.eE) [v53] k) fun gI =>
 pr (.pick) [v49, gI, (.bool false)] fun jq =>
 zK w0 E R v6 x0 x1 x2 ct jq
def Rm (w0 : World) (E R : Value → W) (x0 x1 x2 : Value) : W :=
 pr (.fieldAddr 5) [x1] fun v1 =>
 pr (.ay) [v1] fun v2 =>
 pr (.ay) [x2] fun v3 =>
 pr (.cS 4) [v2, v3] fun v4 =>
 pr (.bL 4) [v4] fun v5 =>
 pr (.alloc 67 [(vi 0), (vi 0), (vi 0), (vi 0)]) [] fun v6 =>
 pr (.store 4) [v6, v5] fun v7 =>
 pr (.fieldAddr 0) [v6] fun v8 =>
 pr (.ay) [v8] fun v9 =>
 cl PP w0 uQ [v9] E fun v10 =>
 pr (.extract 0) [v10] fun v11 =>
 pr (.extract 1) [v10] fun v12 =>
 pr (.alloc 138 [(bs []), (vi 0), (vi 0), (vi 0), (vi 0), (vi 0), (vi 0), (.bool false), (.bool false)]) [] fun ct =>
 pr (.store 9) [ct, v11] fun cw =>
 pr (.fieldAddr 8) [ct] fun v40 =>
 pr (.ay) [v40] fun fi =>
 pr (.eE) [fi] fun kL =>
 gd kL true (fun k => pr (.ay) [x2] k) fun dA =>
 gd kL true (fun k => pr (.aD .add) [dA, (vi 1)] k) fun mA =>
 gd kL true (fun k => pr (.fieldAddr 5) [x1] k) fun ot =>
 gd kL true (fun k => pr (.ay) [ot] k) fun v46 =>
 gd kL true (fun k => pr (.di) [v46] k) fun mB =>
 gd kL true (fun k => pr (.aD .lss) [mA, mB] k) fun gl =>
 pr (.pick) [kL, gl, (.bool false)] fun v49 =>
 I4 w0 E R x0 x2 v6 x1 ct v49
theorem aab {w0 : World} {h : AH} {Q : CR → AH → Prop} (x0 x1 x2 : Value) (H : Rm w0 (fun v h => Q (.aQ v) h) (fun v h => Q (.ret v) h) x0 x1 x2 h) : WF PP w0 D3 [x0, x1, x2] h Q :=
 fh bF aac [[uT]] (by kernel_rfl) (Eq.mp (by kernel_rfl) H)
def Rn (w0 : World) (E R : Value → W) (x0 x1 : Value) : W :=
 pr (.box 25) [x0] fun v1 =>
 pr (.box 3) [x1] fun v2 =>
 pr (.uR (.func D3) 0) [v1, v2] fun v3 =>
 R v3
theorem aad {w0 : World} {h : AH} {Q : CR → AH → Prop} (x0 x1 : Value) (H : Rn w0 (fun v h => Q (.aQ v) h) (fun v h => Q (.ret v) h) x0 x1 h) : WF PP w0 w7 [x0, x1] h Q :=
 fh bF e86 [] (by kernel_rfl) (Eq.mp (by kernel_rfl) H)
def Ro (w0 : World) (E R : Value → W) (x0 x1 : Value) : W :=
 pr (.aD .and) [x0, (.int .u64 4294967295)] fun v1 =>
 pr (.aD .shr) [x0, (.int .u64 32)] fun v2 =>
 pr (.aD .and) [x1, (.int .u64 4294967295)] fun v3 =>
 pr (.aD .shr) [x1, (.int .u64 32)] fun v4 =>
 pr (.aD .mul) [v1, v3] fun v5 =>
 pr (.aD .mul) [v2, v3] fun v6 =>
 pr (.aD .shr) [v5, (.int .u64 32)] fun v7 =>
 pr (.aD .add) [v6, v7] fun v8 =>
 pr (.aD .and) [v8, (.int .u64 4294967295)] fun v9 =>
 pr (.aD .shr) [v8, (.int .u64 32)] fun v10 =>
 pr (.aD .mul) [v1, v4] fun v11 =>
 pr (.aD .add) [v9, v11] fun v12 =>
 pr (.aD .mul) [v2, v4] fun ct =>
 pr (.aD .add) [ct, v10] fun cw =>
 pr (.aD .shr) [v12, (.int .u64 32)] fun ee =>
 pr (.aD .add) [cw, ee] fun hZ =>
 pr (.aD .mul) [x0, x1] fun eD =>
 R (.tuple ⟨[hZ, eD]⟩)
theorem aae {w0 : World} {h : AH} {Q : CR → AH → Prop} (x0 x1 : Value) (H : Ro w0 (fun v h => Q (.aQ v) h) (fun v h => Q (.ret v) h) x0 x1 h) : WF PP w0 Rp [x0, x1] h Q :=
 fh bF aaf [] (by kernel_rfl) (Eq.mp (by kernel_rfl) H)
def Rq (w0 : World) (E R : Value → W) (x0 x1 : Value) : W :=
 cl PP w0 Rp [x0, x1] E fun v1 =>
 pr (.extract 0) [v1] fun v2 =>
 pr (.extract 1) [v1] fun v3 =>
 R (.tuple ⟨[v2, v3]⟩)
def Rr (w0 : World) (E R : Value → W) (x0 x1 : Value) : W :=
 br (.bool false) (
 pr (.conv .u32) [x0] fun v4 =>
 pr (.conv .u32) [x1] fun v5 =>
 cl PP w0 aag [v4, v5] E fun v6 =>
 pr (.extract 0) [v6] fun v7 =>
 pr (.extract 1) [v6] fun v8 =>
 pr (.conv .u64) [v7] fun v9 =>
 pr (.conv .u64) [v8] fun v10 =>
 R (.tuple ⟨[v9, v10]⟩)) (
 Rq w0 E R x0 x1)
theorem aah {w0 : World} {h : AH} {Q : CR → AH → Prop} (x0 x1 : Value) (H : Rr w0 (fun v h => Q (.aQ v) h) (fun v h => Q (.ret v) h) x0 x1 h) : WF PP w0 I5 [x0, x1] h Q :=
 fh bF aai [] (by kernel_rfl) (Eq.mp (by kernel_rfl) H)
def Rs (w0 : World) (E R : Value → W) (v8 : Value) : W :=
 R v8
def Ru (w0 : World) (E R : Value → W) (v8 j4 : Value) (I6 : Value → W) : W :=
 pr (.slice 1 true false false) [v8, j4] fun v12 =>
 pr (.slice 1 false true false) [v8, j4] fun ct =>
 pr (.copy 1) [v12, ct] fun cw =>
 ck (.move) [j4] j4 (
 pr (.aD .add) [j4, cw] fun ee =>
 I6 ee)
def Rv (w0 : World) (E R : Value → W) (v8 : Value) (I6 : Value → W) (j4 : Value) : W :=
 pr (.di) [v8] fun hZ =>
 pr (.aD .lss) [j4, hZ] fun eD =>
 br eD (
 Ru w0 E R v8 j4 I6) (
 Rs w0 E R v8)
def Rw (w0 : World) (E R : Value → W) (v6 x0 : Value) : W :=
 pr (.conv .i64) [v6] fun v7 =>
 pr (.mkSlice 3 1 [(vi 0)]) [v7, v7] fun v8 =>
 pr (.copy 1) [v8, x0] fun v9 =>
 LP (α := Value) (fun k a => Rv w0 E R v8 k a) (v9)
def Rx (w0 : World) (E R : Value → W) (v6 x0 v21 : Value) : W :=
 br v21 (
 pr (.I7 9) [(bs [116, 104, 101, 32, 114, 101, 115, 117, 108, 116, 32, 111, 102, 32, 40, 108, 101, 110, 40, 120, 41, 32, 42, 32, 99, 111, 117, 110, 116, 41, 32, 111, 118, 101, 114, 102, 108, 111, 119, 115])] fun bG =>
 pn [bG] E) (
 Rw w0 E R v6 x0)
def Ry (w0 : World) (E R : Value → W) (x0 x1 : Value) : W :=
 pr (.di) [x0] fun v1 =>
 pr (.conv .u64) [v1] fun v2 =>
 pr (.conv .u64) [x1] fun v3 =>
 cl PP w0 I5 [v2, v3] E fun v4 =>
 pr (.extract 0) [v4] fun v5 =>
 pr (.extract 1) [v4] fun v6 =>
 pr (.aD .gtr) [v5, (.int .u64 0)] fun dX =>
 gd dX false (fun k => k v6) fun dw =>
 gd dX false (fun k => pr (.aD .gtr) [dw, (.int .u64 9223372036854775807)] k) fun v20 =>
 pr (.pick) [dX, (.bool true), v20] fun v21 =>
 Rx w0 E R v6 x0 v21
def Rz (w0 : World) (E R : Value → W) (x0 x1 : Value) : W :=
 pr (.aD .lss) [x1, (vi 0)] fun cn =>
 br cn (
 pr (.I7 9) [(bs [99, 97, 110, 110, 111, 116, 32, 98, 101, 32, 110, 101, 103, 97, 116, 105, 118, 101])] fun v24 =>
 pn [v24] E) (
 Ry w0 E R x0 x1)
theorem aaj {w0 : World} {h : AH} {Q : CR → AH → Prop} (x0 x1 : Value) (H : Rz w0 (fun v h => Q (.aQ v) h) (fun v h => Q (.ret v) h) x0 x1 h) : WF PP w0 I8 [x0, x1] h Q :=
 fh bF aak [[s8]] (by kernel_rfl) (Eq.mp (by kernel_rfl) H)
def I9 (w0 : World) (E R : Value → W)  : W :=
 R (vi 0)
def D4 (w0 : World) (E R : Value → W) (y8 : Value) : W :=
 br y8 (
 R (vi (-1))) (
 I9 w0 E R )
def Ja (w0 : World) (E R : Value → W) (v1 x1 cw : Value) : W :=
 br cw (
 D4 w0 E R  cw) (
 pr (.fieldAddr 0) [v1] fun ee =>
 pr (.ay) [ee] fun hZ =>
 pr (.aD .eql) [hZ, (vi 32)] fun eD =>
 gd eD true (fun k => k x1) fun dX =>
 gd eD true (fun k => pr (.aD .eql) [dX, (vi 1)] k) fun dw =>
 pr (.pick) [eD, dw, (.bool false)] fun v20 =>
 D4 w0 E R  v20)
def Jb (w0 : World) (E R : Value → W) (v1 x1 v7 : Value) : W :=
 br v7 (
 R (vi 1)) (
 pr (.fieldAddr 0) [v1] fun v9 =>
 pr (.ay) [v9] fun v10 =>
 pr (.aD .eql) [v10, (vi 31)] fun v11 =>
 gd v11 true (fun k => k x1) fun v12 =>
 gd v11 true (fun k => pr (.aD .eql) [v12, (vi 0)] k) fun ct =>
 pr (.pick) [v11, ct, (.bool false)] fun cw =>
 Ja w0 E R v1 x1 cw)
def RA (w0 : World) (E R : Value → W) (x0 x1 : Value) : W :=
 pr (.box 67) [x0] fun v1 =>
 pr (.fieldAddr 0) [v1] fun v2 =>
 pr (.ay) [v2] fun v3 =>
 pr (.aD .eql) [v3, (vi 30)] fun v4 =>
 gd v4 true (fun k => k x1) fun v5 =>
 gd v4 true (fun k => pr (.aD .eql) [v5, (vi 0)] k) fun v6 =>
 pr (.pick) [v4, v6, (.bool false)] fun v7 =>
 Jb w0 E R v1 x1 v7
theorem aal {w0 : World} {h : AH} {Q : CR → AH → Prop} (x0 x1 : Value) (H : RA w0 (fun v h => Q (.aQ v) h) (fun v h => Q (.ret v) h) x0 x1 h) : WF PP w0 Jc [x0, x1] h Q :=
 fh bF aam [] (by kernel_rfl) (Eq.mp (by kernel_rfl) H)
def D5 (w0 : World) (E R : Value → W) (v9 v2 v3 : Value) (d14 : List Nat) : W :=
 pr (.ay) [v9] fun ee =>
 pr (.store 1) [v2, ee] fun hZ =>
 pr (.store 1) [v3, (.bool true)] fun eD =>
 gC (d14) (
 ld (.ay) [v2] fun dX =>
 ld (.ay) [v3] fun dw =>
 R (.tuple ⟨[dX, dw]⟩))
def D6 (w0 : World) (E R : Value → W) (bY : Value) (lV : Value → List Nat → W) (d27 : List Nat) : W :=
 pr (.ay) [bY] fun v28 =>
 pr (.alloc 28 [bN]) [] fun dz =>
 pr (.store 1) [dz, v28] fun v30 =>
 pr (.ay) [dz] fun v31 =>
 pr (.slice 1 true false false) [v31, (vi 1)] fun fO =>
 pr (.store 1) [dz, fO] fun iG =>
 lV dz (d27)
def D7 (w0 : World) (E R : Value → W) (v9 bU gJ bY : Value) (lu : LO) (lv : Nat) : W :=
 pr (.ay) [v9] fun ou =>
 pr (.cS 1) [ou, bU] fun lx =>
 pr (.ay) [lx] fun lW =>
 pr (.aD .lss) [lW, (vi 0)] fun ly =>
 br ly (
 pr (.ay) [v9] fun jr =>
 pr (.cS 1) [jr, bU] fun mC =>
 pr (.store 1) [mC, gJ] fun rj =>
 pr (.ay) [bY] fun v70 =>
 pr (.buildSlice 3 1 [(vi 0)] [(0,1)]) [bU] fun sU =>
 pr (.append 3 1 [(vi 0)]) [v70, sU] fun v72 =>
 pr (.store 1) [bY, v72] fun rk =>
 ga lu lv .ready none true R) (
 ga lu lv .ready none true R)
def zL (w0 : World) (E R : Value → W) (v9 bU v2 v3 : Value) (lu : LO) (lv : Nat) (bY gJ : Value) : W :=
 cl PP w0 pO [gJ, (vi 0), (vi 40)] kM fun ow =>
 pr (.eE) [ow] fun v75 =>
 gd v75 false (fun k => pr (.ay) [v9] k) fun v76 =>
 gd v75 false (fun k => k bU) fun mD =>
 gd v75 false (fun k => pr (.cS 1) [v76, mD] k) fun uU =>
 gd v75 false (fun k => pr (.ay) [uU] k) fun uV =>
 gd v75 false (fun k => pr (.aD .geq) [uV, (vi 0)] k) fun v80 =>
 gd v75 false (fun k => k v80) fun iH =>
 gd iH true (fun k => pr (.ay) [v9] k) fun w8 =>
 gd iH true (fun k => k bU) fun uW =>
 gd iH true (fun k => pr (.cS 1) [w8, uW] k) fun uX =>
 gd iH true (fun k => pr (.ay) [uX] k) fun v85 =>
 gd iH true (fun k => k gJ) fun rl =>
 gd iH true (fun k => pr (.aD .neq) [v85, rl] k) fun v87 =>
 gd v75 false (fun k => pr (.pick) [iH, v87, (.bool false)] k) fun w9 =>
 pr (.pick) [v75, (.bool true), w9] fun uY =>
 br uY (
 pr (.store 1) [v2, bN] fun nz =>
 pr (.store 1) [v3, (.bool false)] fun v91 =>
 ga lu lv .done (some .ret) false R) (
 D7 w0 E R v9 bU gJ bY lu lv)
def D8 (w0 : World) (E R : Value → W) (v9 v37 v1 v2 v3 bY : Value) (lu : LO) (lv : Nat) (bU kN : Value) : W :=
 ox lu lv (
 lz lu lv (
 pr (.ay) [v9] fun v51 =>
 pr (.ay) [v37] fun gB =>
 pr (.cS 1) [v51, gB] fun v53 =>
 pr (.ay) [v53] fun gI =>
 pr (.fieldAddr 5) [v1] fun jq =>
 pr (.ay) [jq] fun lA =>
 pr (.ay) [v37] fun ik =>
 pr (.cS 4) [lA, ik] fun uZ =>
 pr (.bL 4) [uZ] fun v59 =>
 cl PP w0 Jc [v59, kN] kM fun pP =>
 ck (.ay) [v53] gI (
 ck (.cS 1) [v51, gB] v53 (
 ck (.ay) [v37] gB (
 ck (.ay) [v9] v51 (
 pr (.aD .add) [gI, pP] fun jK =>
 pr (.aD .eql) [kN, (vi 2)] fun u9 =>
 br u9 (
 zL w0 E R v9 bU v2 v3 lu lv bY (vi 0)) (
 zL w0 E R v9 bU v2 v3 lu lv bY jK)))))))
def D9 (w0 : World) (E R : Value → W) (bY v1 v9 v2 v3 : Value) (lV : Value → List Nat → W) (d26 : List Nat) : W :=
 pr (.ay) [bY] fun fZ =>
 pr (.cS 1) [fZ, (vi 0)] fun eM =>
 pr (.ay) [eM] fun kK =>
 pr (.alloc 3 [(vi 0)]) [] fun v37 =>
 pr (.store 1) [v37, kK] fun iF =>
 pr (.bL 7) [v1] fun eF =>
 pr (.ay) [v37] fun v40 =>
 cl PP w0 w7 [eF, v40] (cE (d26) E) fun fi =>
 vd PP w0 fi (fun lu lv RB R => xa (fun bU kN => D8 w0 kM R v9 v37 v1 v2 v3 bY lu lv bU kN) RB) (fun mE => cE (mE :: d26) E) (fun mE z45 => rm z45 (
 D6 w0 E R bY lV (mE :: d26)) (
 gC (mE :: d26) (
 ld (.ay) [v2] fun v49 =>
 ld (.ay) [v3] fun bH =>
 R (.tuple ⟨[v49, bH]⟩))) [])
def zM (w0 : World) (E R : Value → W) (v1 v9 v2 v3 : Value) (lV : Value → List Nat → W) (bY : Value) (d25 : List Nat) : W :=
 pr (.ay) [bY] fun v93 =>
 pr (.di) [v93] fun ve =>
 pr (.aD .gtr) [ve, (vi 0)] fun oy =>
 br oy (
 D9 w0 E R bY v1 v9 v2 v3 lV (d25)) (
 D5 w0 E R v9 v2 v3 (d25))
def RC (w0 : World) (E R : Value → W) (x0 : Value) : W :=
 pr (.box 25) [x0] fun v1 =>
 pr (.alloc 28 [bN]) [] fun v2 =>
 pr (.alloc 4 [(.bool false)]) [] fun v3 =>
 pr (.buildSlice 3 1 [(vi 0)] [(0,1)]) [(vi (-1))] fun v4 =>
 pr (.fieldAddr 5) [v1] fun v5 =>
 pr (.ay) [v5] fun v6 =>
 pr (.di) [v6] fun v7 =>
 cl PP w0 I8 [v4, v7] (cE (([] : List Nat)) E) fun v8 =>
 pr (.alloc 28 [bN]) [] fun v9 =>
 pr (.store 1) [v9, v8] fun v10 =>
 pr (.ay) [v9] fun v11 =>
 pr (.cS 1) [v11, (vi 0)] fun v12 =>
 pr (.store 1) [v12, (vi 0)] fun ct =>
 pr (.buildSlice 3 1 [(vi 0)] [(0,1)]) [(vi 0)] fun v20 =>
 pr (.alloc 28 [bN]) [] fun v21 =>
 pr (.store 1) [v21, v20] fun bG =>
 LP (α := (Value) × List Nat) (fun k a => zM w0 E R v1 v9 v2 v3 (fun b0 q => k ((b0), q)) a.1 a.2) ((v21), ([] : List Nat))
theorem aan {w0 : World} {h : AH} {Q : CR → AH → Prop} (x0 : Value) (H : RC w0 (fun v h => Q (.aQ v) h) (fun v h => Q (.ret v) h) x0 h) : WF PP w0 Jd [x0] h Q := by
 let E : Value → W := fun v h => Q (.aQ v) h
 let R : Value → W := fun v h => Q (.ret v) h
 refine zN bF e54 ?_
 refine cN ?_
 refine b9 ?_
 refine aN (vs := [x0]) (by kernel_rfl) H fun v1 h H => ?_
 refine aN (vs := []) (by kernel_rfl) H fun v2 h H => ?_
 refine aN (vs := []) (by kernel_rfl) H fun v3 h H => ?_
 refine cb ?_
 refine cO ?_
 refine cN ?_
 refine b9 ?_
 refine aN (vs := [(vi (-1))]) (by kernel_rfl) H fun v4 h H => ?_
 refine aN (vs := [v1]) (by kernel_rfl) H fun v5 h H => ?_
 refine aN (vs := [v5]) (by kernel_rfl) H fun v6 h H => ?_
 refine aN (vs := [v6]) (by kernel_rfl) H fun v7 h H => ?_
 refine oz (vs := [v4, v7]) (by kernel_rfl) H (fun _ _ H => lX (P := PP) (w0 := w0) xb.results Q (([] : List Nat)) (by kernel_rfl) H) fun v8 h H => ?_
 refine aN (vs := []) (by kernel_rfl) H fun v9 h H => ?_
 refine aN (vs := [v9, v8]) (by kernel_rfl) H fun v10 h H => ?_
 refine cb ?_
 refine cO ?_
 refine cN ?_
 refine b9 ?_
 refine aN (vs := [v9]) (by kernel_rfl) H fun v11 h H => ?_
 refine aN (vs := [v11, (vi 0)]) (by kernel_rfl) H fun v12 h H => ?_
 refine aN (vs := [v12, (vi 0)]) (by kernel_rfl) H fun ct h H => ?_
 refine cb ?_
 refine cO ?_
 refine nA (rs := ([] : List Nat)) (α := Unit) [(s2, v2), (s3, v3), (s4, v9)] (fun a => []) (fun σ => ()) (fun a q => D5 w0 E R v9 v2 v3  q) (fun σ => trivial) (fun a1 d14 σ h H => ?_) ?_
 · refine cN ?_
   refine b9 ?_
   refine aN (vs := [v9]) (by kernel_rfl) H fun ee h H => ?_
   refine aN (vs := [v2, ee]) (by kernel_rfl) H fun hZ h H => ?_
   refine aN (vs := [v3, (.bool true)]) (by kernel_rfl) H fun eD h H => ?_
   refine cb ?_
   refine cO ?_
   exact sV (P := PP) (w0 := w0) xb.results Q (d14) (by kernel_rfl) (Eq.mp (by kernel_rfl) H)
 · refine cN ?_
   refine b9 ?_
   refine aN (vs := [(vi 0)]) (by kernel_rfl) H fun v20 h H => ?_
   refine aN (vs := []) (by kernel_rfl) H fun v21 h H => ?_
   refine aN (vs := [v21, v20]) (by kernel_rfl) H fun bG h H => ?_
   refine cb ?_
   refine cO ?_
   refine lY ?_
   refine Je bF (rs := ([] : List Nat)) (α := Value) [(s1, v1), (s2, v2), (s3, v3), (s4, v9)] (fun a => [(s5, a)]) (fun σ => (σ s5)) (fun k a => zM w0 E R v1 v9 v2 v3 (fun b0 q => k ((b0), q)) a.1 a.2) (fun σ => (And.intro rfl trivial)) (fun Ea a2 d25 σ h H => ?_) (x := (v21)) (by kernel_rfl) (Eq.mp (by kernel_rfl) (And.intro (Eq.refl (v1 : Value)) (And.intro (Eq.refl (v2 : Value)) (And.intro (Eq.refl (v3 : Value)) (And.intro (Eq.refl (v9 : Value)) trivial))))) H
   refine nA (rs := d25) (α := Unit) [(s1, v1), (s2, v2), (s3, v3), (s4, v9), (s5, a2)] (fun a => []) (fun σ => ()) (fun a q => D9 w0 E R a2 v1 v9 v2 v3 (fun b0 q => Ea ((b0), q))  q) (fun σ => trivial) (fun a3 d26 σ h H => ?_) ?_
   · refine nA (rs := d26) (α := Unit) [(s1, v1), (s2, v2), (s3, v3), (s4, v9), (s5, a2)] (fun a => []) (fun σ => ()) (fun a q => D6 w0 E R a2 (fun b0 q => Ea ((b0), q))  q) (fun σ => trivial) (fun a4 d27 σ h H => ?_) ?_
     · refine cN ?_
       refine cN ?_
       refine b9 ?_
       refine aN (vs := [a2]) (by kernel_rfl) H fun v28 h H => ?_
       refine cb ?_
       refine cO ?_
       refine b9 ?_
       refine aN (vs := []) (by kernel_rfl) H fun dz h H => ?_
       refine aN (vs := [dz, v28]) (by kernel_rfl) H fun v30 h H => ?_
       refine cb ?_
       refine cO ?_
       refine b9 ?_
       refine aN (vs := [dz]) (by kernel_rfl) H fun v31 h H => ?_
       refine aN (vs := [v31, (vi 1)]) (by kernel_rfl) H fun fO h H => ?_
       refine aN (vs := [dz, fO]) (by kernel_rfl) H fun iG h H => ?_
       refine cb ?_
       exact Exists.intro (d27) (Eq.mp (by kernel_rfl) (And.intro (Eq.refl (fj (d27))) (And.intro (And.intro (Eq.refl (v1 : Value)) (And.intro (Eq.refl (v2 : Value)) (And.intro (Eq.refl (v3 : Value)) (And.intro (Eq.refl (v9 : Value)) trivial)))) H)))
     · refine lY ?_
       refine cN ?_
       refine b9 ?_
       refine aN (vs := [a2]) (by kernel_rfl) H fun fZ h H => ?_
       refine aN (vs := [fZ, (vi 0)]) (by kernel_rfl) H fun eM h H => ?_
       refine aN (vs := [eM]) (by kernel_rfl) H fun kK h H => ?_
       refine aN (vs := []) (by kernel_rfl) H fun v37 h H => ?_
       refine aN (vs := [v37, kK]) (by kernel_rfl) H fun iF h H => ?_
       refine cb ?_
       refine cO ?_
       refine cN ?_
       refine b9 ?_
       refine aN (vs := [v1]) (by kernel_rfl) H fun eF h H => ?_
       refine aN (vs := [v37]) (by kernel_rfl) H fun v40 h H => ?_
       refine oz (vs := [eF, v40]) (by kernel_rfl) H (fun _ _ H => lX (P := PP) (w0 := w0) xb.results Q (d26) (by kernel_rfl) H) fun fi h H => ?_
       refine cb ?_
       refine cO ?_
       refine lY ?_
       refine Eb bF (rs := d26) _ _ _ _ _ (fv := fi) (by kernel_rfl) H (fun mE _ _ H => lX (P := PP) (w0 := w0) xb.results Q (mE :: d26) (by kernel_rfl) H) (fun mE h H => ?_) (fun mE h H => ?_) (fun mE => trivial) (fun lu Jf lv RB R h H => ?_)
       · refine kO ?_
         refine kO ?_
         exact Exists.intro (mE :: d26) (Eq.mp (by kernel_rfl) (And.intro (Eq.refl (fj (mE :: d26))) (And.intro (And.intro (Eq.refl (v1 : Value)) (And.intro (Eq.refl (v2 : Value)) (And.intro (Eq.refl (v3 : Value)) (And.intro (Eq.refl (v9 : Value)) (And.intro (Eq.refl (a2 : Value)) trivial))))) H)))
       · exact sV (P := PP) (w0 := w0) xb.results Q (mE :: d26) (by kernel_rfl) (Eq.mp (by kernel_rfl) H)
       · obtain ⟨bU, kN, rfl, H⟩ := Ec H
         let E : Value → W := kM
         have H2 := Ed H
         refine ⟨H2.1, rfl, ?_⟩
         have H := H2.2
         refine cN ?_
         refine b9 ?_
         refine dE (v := bU) (by kernel_rfl) ?_
         refine cb ?_
         refine cO ?_
         refine b9 ?_
         refine dE (v := kN) (by kernel_rfl) ?_
         refine cb ?_
         refine Ee H (fun h H => ?_)
         refine lY ?_
         refine cN ?_
         refine aao ?_
         refine pQ (vs := [v9]) (by kernel_rfl) H fun v51 h H => ?_
         refine pQ (vs := [v37]) (by kernel_rfl) H fun gB h H => ?_
         refine pQ (vs := [v51, gB]) (by kernel_rfl) H fun v53 h H => ?_
         refine pQ (vs := [v53]) (by kernel_rfl) H fun gI h H => ?_
         refine pQ (vs := [v1]) (by kernel_rfl) H fun jq h H => ?_
         refine pQ (vs := [jq]) (by kernel_rfl) H fun lA h H => ?_
         refine pQ (vs := [v37]) (by kernel_rfl) H fun ik h H => ?_
         refine pQ (vs := [lA, ik]) (by kernel_rfl) H fun uZ h H => ?_
         refine pQ (vs := [uZ]) (by kernel_rfl) H fun v59 h H => ?_
         refine RD (v := kN) (by kernel_rfl) ?_
         refine aap (vs := [v59, kN]) (by kernel_rfl) H (fun _ _ H => False.elim H) fun pP h H => ?_
         refine Ef (v := gI) (vs := [v53]) rfl (by kernel_rfl) (by kernel_rfl) H fun H => ?_
         refine Ef (v := v53) (vs := [v51, gB]) rfl (by kernel_rfl) (by kernel_rfl) H fun H => ?_
         refine Ef (v := gB) (vs := [v37]) rfl (by kernel_rfl) (by kernel_rfl) H fun H => ?_
         refine Ef (v := v51) (vs := [v9]) rfl (by kernel_rfl) (by kernel_rfl) H fun H => ?_
         refine pQ (vs := [gI, pP]) (by kernel_rfl) H fun jK h H => ?_
         refine RD (v := jK) (by kernel_rfl) ?_
         refine aaq ?_
         refine cO ?_
         refine Jg (α := Value) [(s2, v2), (s3, v3), (s4, v9), (s5, a2), (s7, bU)] (fun a => [(s9, a)]) (fun σ => (σ s9)) (fun a => zL w0 E R v9 bU v2 v3 lu lv a2 a) (fun σ => (And.intro rfl trivial)) (fun a5 σ h H => ?_) ?_
         · refine Jg (α := Unit) [(s4, v9), (s5, a2), (s7, bU), (s9, a5)] (fun a => []) (fun σ => ()) (fun a => D7 w0 E R v9 bU a5 a2 lu lv ) (fun σ => trivial) (fun a6 σ h H => ?_) ?_
           · refine cN ?_
             refine b9 ?_
             refine aN (vs := [v9]) (by kernel_rfl) H fun ou h H => ?_
             refine dE (v := bU) (by kernel_rfl) ?_
             refine aN (vs := [ou, bU]) (by kernel_rfl) H fun lx h H => ?_
             refine aN (vs := [lx]) (by kernel_rfl) H fun lW h H => ?_
             refine aN (vs := [lW, (vi 0)]) (by kernel_rfl) H fun ly h H => ?_
             refine cb ?_
             refine cO ?_
             refine lZ (v := ly) (by kernel_rfl) H (fun H => ?_) (fun H => ?_)
             · refine cN ?_
               refine b9 ?_
               refine aN (vs := [v9]) (by kernel_rfl) H fun jr h H => ?_
               refine dE (v := bU) (by kernel_rfl) ?_
               refine dE (v := a5) (by kernel_rfl) ?_
               refine aN (vs := [jr, bU]) (by kernel_rfl) H fun mC h H => ?_
               refine aN (vs := [mC, a5]) (by kernel_rfl) H fun rj h H => ?_
               refine cb ?_
               refine cO ?_
               refine b9 ?_
               refine aN (vs := [a2]) (by kernel_rfl) H fun v70 h H => ?_
               refine dE (v := bU) (by kernel_rfl) ?_
               refine aN (vs := [bU]) (by kernel_rfl) H fun sU h H => ?_
               refine aN (vs := [v70, sU]) (by kernel_rfl) H fun v72 h H => ?_
               refine aN (vs := [a2, v72]) (by kernel_rfl) H fun rk h H => ?_
               refine cb ?_
               refine kO ?_
               exact Eq.mp (by kernel_rfl) (And.intro (Eq.refl ([] : List ef)) H)
             · refine mF ?_
               refine kO ?_
               exact Eq.mp (by kernel_rfl) (And.intro (Eq.refl ([] : List ef)) H)
           · refine cN ?_
             refine b9 ?_
             refine dE (v := a5) (by kernel_rfl) ?_
             refine oz (vs := [a5, (vi 0), (vi 40)]) (by kernel_rfl) H (fun _ _ H => False.elim H) fun ow h H => ?_
             refine aN (vs := [ow]) (by kernel_rfl) H fun v75 h H => ?_
             refine dE (v := v75) (by kernel_rfl) ?_
             refine gm (vs := [v9]) (gv := v75) (by kernel_rfl) (by kernel_rfl) H fun v76 h H => ?_
             refine zO (v := bU) (gv := v75) (by kernel_rfl) (by kernel_rfl) H fun mD h H => ?_
             refine gm (vs := [v76, mD]) (gv := v75) (by kernel_rfl) (by kernel_rfl) H fun uU h H => ?_
             refine gm (vs := [uU]) (gv := v75) (by kernel_rfl) (by kernel_rfl) H fun uV h H => ?_
             refine gm (vs := [uV, (vi 0)]) (gv := v75) (by kernel_rfl) (by kernel_rfl) H fun v80 h H => ?_
             refine zO (v := v80) (gv := v75) (by kernel_rfl) (by kernel_rfl) H fun iH h H => ?_
             refine gm (vs := [v9]) (gv := iH) (by kernel_rfl) (by kernel_rfl) H fun w8 h H => ?_
             refine zO (v := bU) (gv := iH) (by kernel_rfl) (by kernel_rfl) H fun uW h H => ?_
             refine gm (vs := [w8, uW]) (gv := iH) (by kernel_rfl) (by kernel_rfl) H fun uX h H => ?_
             refine gm (vs := [uX]) (gv := iH) (by kernel_rfl) (by kernel_rfl) H fun v85 h H => ?_
             refine zO (v := a5) (gv := iH) (by kernel_rfl) (by kernel_rfl) H fun rl h H => ?_
             refine gm (vs := [v85, rl]) (gv := iH) (by kernel_rfl) (by kernel_rfl) H fun v87 h H => ?_
             refine gm (vs := [iH, v87, (.bool false)]) (gv := v75) (by kernel_rfl) (by kernel_rfl) H fun w9 h H => ?_
             refine aN (vs := [v75, (.bool true), w9]) (by kernel_rfl) H fun uY h H => ?_
             refine cb ?_
             refine cO ?_
             refine lZ (v := uY) (by kernel_rfl) H (fun H => ?_) (fun H => ?_)
             · refine cN ?_
               refine b9 ?_
               refine aN (vs := [v2, bN]) (by kernel_rfl) H fun nz h H => ?_
               refine aN (vs := [v3, (.bool false)]) (by kernel_rfl) H fun v91 h H => ?_
               refine cb ?_
               refine cO ?_
               exact Eq.mp (by kernel_rfl) (And.intro (Eq.refl ([] : List ef)) H)
             · refine mF ?_
               exact Eq.mp (by kernel_rfl) (And.intro (Eq.refl (⟨[], .off⟩ : DS)) (And.intro (And.intro (Eq.refl (v9 : Value)) (And.intro (Eq.refl (a2 : Value)) (And.intro (Eq.refl (bU : Value)) (And.intro (Eq.refl (a5 : Value)) trivial)))) H))
         · refine cN ?_
           refine b9 ?_
           refine dE (v := kN) (by kernel_rfl) ?_
           refine aN (vs := [kN, (vi 2)]) (by kernel_rfl) H fun u9 h H => ?_
           refine cb ?_
           refine cO ?_
           refine lZ (v := u9) (by kernel_rfl) H (fun H => ?_) (fun H => ?_)
           · refine b9 ?_
             refine dE (v := (vi 0)) (by kernel_rfl) ?_
             refine cb ?_
             exact Eq.mp (by kernel_rfl) (And.intro (Eq.refl (⟨[], .off⟩ : DS)) (And.intro (And.intro (Eq.refl (v2 : Value)) (And.intro (Eq.refl (v3 : Value)) (And.intro (Eq.refl (v9 : Value)) (And.intro (Eq.refl (a2 : Value)) (And.intro (Eq.refl (bU : Value)) trivial))))) H))
           · refine mF ?_
             exact Eq.mp (by kernel_rfl) (And.intro (Eq.refl (⟨[], .off⟩ : DS)) (And.intro (And.intro (Eq.refl (v2 : Value)) (And.intro (Eq.refl (v3 : Value)) (And.intro (Eq.refl (v9 : Value)) (And.intro (Eq.refl (a2 : Value)) (And.intro (Eq.refl (bU : Value)) trivial))))) H))
   · refine cN ?_
     refine b9 ?_
     refine aN (vs := [a2]) (by kernel_rfl) H fun v93 h H => ?_
     refine aN (vs := [v93]) (by kernel_rfl) H fun ve h H => ?_
     refine aN (vs := [ve, (vi 0)]) (by kernel_rfl) H fun oy h H => ?_
     refine cb ?_
     refine cO ?_
     refine lZ (v := oy) (by kernel_rfl) H (fun H => ?_) (fun H => ?_)
     · refine mF ?_
       exact Exists.intro (d25) (Eq.mp (by kernel_rfl) (And.intro (Eq.refl (fj (d25))) (And.intro (And.intro (Eq.refl (v1 : Value)) (And.intro (Eq.refl (v2 : Value)) (And.intro (Eq.refl (v3 : Value)) (And.intro (Eq.refl (v9 : Value)) (And.intro (Eq.refl (a2 : Value)) trivial))))) H)))
     · exact Exists.intro (d25) (Eq.mp (by kernel_rfl) (And.intro (Eq.refl (fj (d25))) (And.intro (And.intro (Eq.refl (v2 : Value)) (And.intro (Eq.refl (v3 : Value)) (And.intro (Eq.refl (v9 : Value)) trivial))) H)))
def RE (w0 : World) (E R : Value → W) (x0 x1 : Value) : W :=
 pr (.ay) [x1] fun v1 =>
 pr (.aD .sub) [v1, (vi 1)] fun v2 =>
 cl PP w0 pO [x0, (vi 0), v2] E fun v3 =>
 pr (.eE) [v3] fun v4 =>
 R v4
theorem aar {w0 : World} {h : AH} {Q : CR → AH → Prop} (x0 x1 : Value) (H : RE w0 (fun v h => Q (.aQ v) h) (fun v h => Q (.ret v) h) x0 x1 h) : WF PP w0 Eg [x0, x1] h Q :=
 fh bF aas [] (by kernel_rfl) (Eq.mp (by kernel_rfl) H)
def Jh (w0 : World) (E R : Value → W) (v1 x1 ee : Value) : W :=
 gd ee false (fun k => pr (.fieldAddr 2) [v1] k) fun hZ =>
 gd ee false (fun k => pr (.ay) [hZ] k) fun eD =>
 gd ee false (fun k => pr (.ay) [x1] k) fun dX =>
 gd ee false (fun k => pr (.aD .sub) [dX, (vi 1)] k) fun dw =>
 gd ee false (fun k => cl PP w0 pO [eD, (vi 0), dw] E k) fun v20 =>
 gd ee false (fun k => pr (.eE) [v20] k) fun v21 =>
 pr (.pick) [ee, (.bool true), v21] fun bG =>
 R bG
def Ji (w0 : World) (E R : Value → W) (v1 x1 v10 : Value) : W :=
 gd v10 false (fun k => pr (.fieldAddr 1) [v1] k) fun v11 =>
 gd v10 false (fun k => pr (.ay) [v11] k) fun v12 =>
 gd v10 false (fun k => pr (.ay) [x1] k) fun ct =>
 gd v10 false (fun k => pr (.aD .gtr) [v12, ct] k) fun cw =>
 pr (.pick) [v10, (.bool true), cw] fun ee =>
 Jh w0 E R v1 x1 ee
def RF (w0 : World) (E R : Value → W) (x0 x1 : Value) : W :=
 pr (.box 79) [x0] fun v1 =>
 pr (.fieldAddr 0) [v1] fun v2 =>
 pr (.ay) [v2] fun v3 =>
 pr (.aD .lss) [v3, (vi 0)] fun v4 =>
 gd v4 false (fun k => pr (.fieldAddr 0) [v1] k) fun v5 =>
 gd v4 false (fun k => pr (.ay) [v5] k) fun v6 =>
 gd v4 false (fun k => pr (.fieldAddr 1) [v1] k) fun v7 =>
 gd v4 false (fun k => pr (.ay) [v7] k) fun v8 =>
 gd v4 false (fun k => pr (.aD .geq) [v6, v8] k) fun v9 =>
 pr (.pick) [v4, (.bool true), v9] fun v10 =>
 Ji w0 E R v1 x1 v10
theorem aat {w0 : World} {h : AH} {Q : CR → AH → Prop} (x0 x1 : Value) (H : RF w0 (fun v h => Q (.aQ v) h) (fun v h => Q (.ret v) h) x0 x1 h) : WF PP w0 Eh [x0, x1] h Q :=
 fh bF aau [] (by kernel_rfl) (Eq.mp (by kernel_rfl) H)
def RG (w0 : World) (E R : Value → W) (x0 x1 : Value) : W :=
 cl PP w0 DY [x0, x1] E fun v1 =>
 pr (.aD .geq) [v1, (vi 0)] fun v2 =>
 R v2
theorem aav {w0 : World} {h : AH} {Q : CR → AH → Prop} (x0 x1 : Value) (H : RG w0 (fun v h => Q (.aQ v) h) (fun v h => Q (.ret v) h) x0 x1 h) : WF PP w0 Jj [x0, x1] h Q :=
 fh bF aaw [] (by kernel_rfl) (Eq.mp (by kernel_rfl) H)
def Jk (w0 : World) (E R : Value → W) (v1 v5 : Value) : W :=
 pr (.fieldAddr 6) [v1] fun v7 =>
 pr (.ay) [v7] fun v8 =>
 pr (.uR (.func Eh) 0) [v5] fun v9 =>
 cl PP w0 Jj [v8, v9] E fun v10 =>
 pr (.eE) [v10] fun v11 =>
 R v11
def Jl (w0 : World) (E R : Value → W) (cG : Value) (js : Value → W) : W :=
 pr (.aD .add) [cG, (vi 1)] fun dX =>
 js dX
def Jm (w0 : World) (E R : Value → W) (cG : Value) (js : Value → W) (eM : Value) : W :=
 br eM (
 R (.bool false)) (
 Jl w0 E R cG js)
def Jn (w0 : World) (E R : Value → W) (ct cG v5 : Value) (js : Value → W) : W :=
 pr (.cS 4) [ct, cG] fun dw =>
 pr (.bL 4) [dw] fun v20 =>
 pr (.alloc 67 [(vi 0), (vi 0), (vi 0), (vi 0)]) [] fun v21 =>
 pr (.store 4) [v21, v20] fun bG =>
 pr (.fieldAddr 0) [v21] fun cn =>
 pr (.ay) [cn] fun v24 =>
 cl PP w0 uQ [v24] E fun jJ =>
 pr (.extract 0) [jJ] fun aW =>
 pr (.extract 1) [jJ] fun iE =>
 pr (.alloc 138 [(bs []), (vi 0), (vi 0), (vi 0), (vi 0), (vi 0), (vi 0), (.bool false), (.bool false)]) [] fun v28 =>
 pr (.store 9) [v28, aW] fun dz =>
 pr (.eE) [iE] fun v30 =>
 gd v30 false (fun k => pr (.bL 4) [v21] k) fun v31 =>
 gd v30 false (fun k => cl PP w0 DV [v31] E k) fun fO =>
 gd v30 false (fun k => pr (.uR (.func Eg) 0) [v5] k) fun iG =>
 gd v30 false (fun k => cl PP w0 IP [fO, iG] E k) fun fZ =>
 pr (.pick) [v30, (.bool true), fZ] fun eM =>
 Jm w0 E R cG js eM
def Ei (w0 : World) (E R : Value → W) (cw ct v5 v1 : Value) (js : Value → W) (cG : Value) : W :=
 pr (.aD .lss) [cG, cw] fun eD =>
 br eD (
 Jn w0 E R ct cG v5 js) (
 Jk w0 E R v1 v5)
def Jo (w0 : World) (E R : Value → W) (v1 v5 : Value) : W :=
 pr (.fieldAddr 5) [v1] fun v12 =>
 pr (.ay) [v12] fun ct =>
 pr (.di) [ct] fun cw =>
 LP (α := Value) (fun k a => Ei w0 E R cw ct v5 v1 k a) ((vi 0))
def Jp (w0 : World) (E R : Value → W) (v1 v5 v53 : Value) : W :=
 br v53 (
 R (.bool false)) (
 Jo w0 E R v1 v5)
def Jq (w0 : World) (E R : Value → W) (v1 v5 gl : Value) : W :=
 gd gl false (fun k => pr (.fieldAddr 4) [v1] k) fun v49 =>
 gd gl false (fun k => pr (.ay) [v49] k) fun bH =>
 gd gl false (fun k => cl PP w0 pO [bH, (vi 0), (vi 200)] E k) fun v51 =>
 gd gl false (fun k => pr (.eE) [v51] k) fun gB =>
 pr (.pick) [gl, (.bool true), gB] fun v53 =>
 Jp w0 E R v1 v5 v53
def Jr (w0 : World) (E R : Value → W) (v1 v5 dA : Value) : W :=
 gd dA false (fun k => pr (.fieldAddr 3) [v1] k) fun mA =>
 gd dA false (fun k => pr (.ay) [mA] k) fun ot =>
 gd dA false (fun k => cl PP w0 pO [ot, (vi 0), (vi 200)] E k) fun v46 =>
 gd dA false (fun k => pr (.eE) [v46] k) fun mB =>
 pr (.pick) [dA, (.bool true), mB] fun gl =>
 Jq w0 E R v1 v5 gl
def RH (w0 : World) (E R : Value → W) (x0 : Value) : W :=
 pr (.box 25) [x0] fun v1 =>
 pr (.fieldAddr 5) [v1] fun v2 =>
 pr (.ay) [v2] fun v3 =>
 pr (.di) [v3] fun v4 =>
 pr (.alloc 3 [(vi 0)]) [] fun v5 =>
 pr (.store 1) [v5, v4] fun v6 =>
 pr (.ay) [v5] fun kK =>
 cl PP w0 pO [kK, (vi 1), (vi 600)] E fun v37 =>
 pr (.eE) [v37] fun iF =>
 gd iF false (fun k => pr (.fieldAddr 6) [v1] k) fun eF =>
 gd iF false (fun k => pr (.ay) [eF] k) fun v40 =>
 gd iF false (fun k => pr (.di) [v40] k) fun fi =>
 gd iF false (fun k => pr (.aD .gtr) [fi, (vi 40)] k) fun kL =>
 pr (.pick) [iF, (.bool true), kL] fun dA =>
 Jr w0 E R v1 v5 dA
theorem aax {w0 : World} {h : AH} {Q : CR → AH → Prop} (x0 : Value) (H : RH w0 (fun v h => Q (.aQ v) h) (fun v h => Q (.ret v) h) x0 h) : WF PP w0 vf [x0] h Q :=
 fh bF e53 [[rn]] (by kernel_rfl) (Eq.mp (by kernel_rfl) H)
def Js (w0 : World) (E R : Value → W) (v4 : Value) : W :=
 R (.tuple ⟨[v4, (vi 0)]⟩)
def Jt (w0 : World) (E R : Value → W) (v1 : Value) : W :=
 pr (.bL 7) [v1] fun v2 =>
 cl PP w0 Jd [v2] E fun v3 =>
 pr (.extract 0) [v3] fun v4 =>
 pr (.extract 1) [v3] fun v5 =>
 pr (.eE) [v5] fun v6 =>
 br v6 (
 R (.tuple ⟨[bN, (vi 12)]⟩)) (
 Js w0 E R v4)
def RI (w0 : World) (E R : Value → W) (x0 : Value) : W :=
 pr (.box 25) [x0] fun v1 =>
 pr (.bL 7) [v1] fun v7 =>
 cl PP w0 vf [v7] E fun v8 =>
 pr (.eE) [v8] fun v9 =>
 br v9 (
 R (.tuple ⟨[bN, (vi 1)]⟩)) (
 Jt w0 E R v1)
theorem aay {w0 : World} {h : AH} {Q : CR → AH → Prop} (x0 : Value) (H : RI w0 (fun v h => Q (.aQ v) h) (fun v h => Q (.ret v) h) x0 h) : WF PP w0 Ju [x0] h Q :=
 fh bF e14 [] (by kernel_rfl) (Eq.mp (by kernel_rfl) H)
def Jv (w0 : World) (E R : Value → W)  : W :=
 R (vi (-1))
def Jw (w0 : World) (E R : Value → W) (y3 : Value) (k2 : Value → W) : W :=
 pr (.aD .add) [y3, (vi 1)] fun v5 =>
 k2 v5
def Jx (w0 : World) (E R : Value → W) (x0 y3 x1 : Value) (k2 : Value → W) : W :=
 pr (.cS 1) [x0, y3] fun v6 =>
 pr (.ay) [v6] fun v7 =>
 pr (.aD .eql) [x1, v7] fun v8 =>
 br v8 (
 R y3) (
 Jw w0 E R y3 k2)
def Ej (w0 : World) (E R : Value → W) (v1 x0 x1 : Value) (k2 : Value → W) (y3 : Value) : W :=
 pr (.aD .lss) [y3, v1] fun v4 =>
 br v4 (
 Jx w0 E R x0 y3 x1 k2) (
 Jv w0 E R )
def RJ (w0 : World) (E R : Value → W) (x0 x1 : Value) : W :=
 pr (.di) [x0] fun v1 =>
 LP (α := Value) (fun k a => Ej w0 E R v1 x0 x1 k a) ((vi 0))
theorem aaz {w0 : World} {h : AH} {Q : CR → AH → Prop} (x0 x1 : Value) (H : RJ w0 (fun v h => Q (.aQ v) h) (fun v h => Q (.ret v) h) x0 x1 h) : WF PP w0 Jy [x0, x1] h Q :=
 fh bF aaA [[s8]] (by kernel_rfl) (Eq.mp (by kernel_rfl) H)
def RK (w0 : World) (E R : Value → W) (x0 x1 : Value) : W :=
 cl PP w0 Jy [x0, x1] E fun v1 =>
 pr (.aD .geq) [v1, (vi 0)] fun v2 =>
 R v2
theorem aaB {w0 : World} {h : AH} {Q : CR → AH → Prop} (x0 x1 : Value) (H : RK w0 (fun v h => Q (.aQ v) h) (fun v h => Q (.ret v) h) x0 x1 h) : WF PP w0 Jz [x0, x1] h Q :=
 fh bF e90 [] (by kernel_rfl) (Eq.mp (by kernel_rfl) H)
def Ek (w0 : World) (E R : Value → W) (v3 : Value) (d4 : List Nat) : W :=
 pr (.ay) [v3] fun v5 =>
 gC (d4) (
 R v5)
def El (w0 : World) (E R : Value → W) (v3 : Value) (o8 : LO) (n9 : Nat) (az ak : Value) : W :=
 ox o8 n9 (
 lz o8 n9 (
 pr (.ay) [v3] fun ee =>
 cl PP w0 Jz [ee, az] kM fun hZ =>
 pr (.eE) [hZ] fun eD =>
 br eD (
 pr (.ay) [v3] fun dX =>
 pr (.buildSlice 3 1 [(vi 0)] [(0,1)]) [az] fun dw =>
 pr (.append 3 1 [(vi 0)]) [dX, dw] fun v20 =>
 pr (.store 1) [v3, v20] fun v21 =>
 ga o8 n9 .ready none true R) (
 ga o8 n9 .ready none true R)))
def Em (w0 : World) (E R : Value → W) (v1 x1 : Value) (d2 : List Nat) : W :=
 pr (.alloc 28 [bN]) [] fun v3 =>
 pr (.bL 7) [v1] fun v6 =>
 cl PP w0 w7 [v6, x1] (cE (d2) E) fun v7 =>
 vd PP w0 v7 (fun o8 n9 RL R => xa (fun az ak => El w0 kM R v3 o8 n9 az ak) RL) (fun oA => cE (oA :: d2) E) (fun oA z11 => rm z11 (
 Ek w0 E R v3 (oA :: d2)) (
 (fun _ => False)) [])
def En (w0 : World) (E R : Value → W) (v1 x1 fO : Value) : W :=
 br fO (
 gC (([] : List Nat)) (
 R bN)) (
 Em w0 E R v1 x1 (([] : List Nat)))
def RM (w0 : World) (E R : Value → W) (x0 x1 : Value) : W :=
 pr (.box 25) [x0] fun v1 =>
 pr (.bL 7) [v1] fun bG =>
 cl PP w0 vf [bG] (cE (([] : List Nat)) E) fun cn =>
 pr (.eE) [cn] fun v24 =>
 gd v24 false (fun k => k x1) fun jJ =>
 gd v24 false (fun k => pr (.fieldAddr 5) [v1] k) fun aW =>
 gd v24 false (fun k => pr (.ay) [aW] k) fun iE =>
 gd v24 false (fun k => pr (.di) [iE] k) fun v28 =>
 gd v24 false (fun k => pr (.aD .sub) [v28, (vi 1)] k) fun dz =>
 gd v24 false (fun k => cl PP w0 pO [jJ, (vi 0), dz] (cE (([] : List Nat)) E) k) fun v30 =>
 gd v24 false (fun k => pr (.eE) [v30] k) fun v31 =>
 pr (.pick) [v24, (.bool true), v31] fun fO =>
 En w0 E R v1 x1 fO
theorem aaC {w0 : World} {h : AH} {Q : CR → AH → Prop} (x0 : Value) (x1 : Value) (H : RM w0 (fun v h => Q (.aQ v) h) (fun v h => Q (.ret v) h) x0 x1 h) : WF PP w0 JA [x0, x1] h Q := by
 let E : Value → W := fun v h => Q (.aQ v) h
 let R : Value → W := fun v h => Q (.ret v) h
 refine zN bF e32 ?_
 refine cN ?_
 refine b9 ?_
 refine aN (vs := [x0]) (by kernel_rfl) H fun v1 h H => ?_
 refine dE (v := bN) (by kernel_rfl) ?_
 refine cb ?_
 refine cO ?_
 refine nA (rs := ([] : List Nat)) (α := Unit) [(s1, x1), (s2, v1)] (fun a => []) (fun σ => ()) (fun a q => Em w0 E R v1 x1  q) (fun σ => trivial) (fun a1 d2 σ h H => ?_) ?_
 · refine cN ?_
   refine b9 ?_
   refine aN (vs := []) (by kernel_rfl) H fun v3 h H => ?_
   refine cb ?_
   refine cO ?_
   refine nA (rs := d2) (α := Unit) [(s5, v3)] (fun a => []) (fun σ => ()) (fun a q => Ek w0 E R v3  q) (fun σ => trivial) (fun a2 d4 σ h H => ?_) ?_
   · refine cN ?_
     refine b9 ?_
     refine aN (vs := [v3]) (by kernel_rfl) H fun v5 h H => ?_
     refine dE (v := v5) (by kernel_rfl) ?_
     refine cb ?_
     refine cO ?_
     exact sV (P := PP) (w0 := w0) vg.results Q (d4) (by kernel_rfl) (Eq.mp (by kernel_rfl) H)
   · refine cN ?_
     refine b9 ?_
     refine aN (vs := [v1]) (by kernel_rfl) H fun v6 h H => ?_
     refine dE (v := x1) (by kernel_rfl) ?_
     refine oz (vs := [v6, x1]) (by kernel_rfl) H (fun _ _ H => lX (P := PP) (w0 := w0) vg.results Q (d2) (by kernel_rfl) H) fun v7 h H => ?_
     refine cb ?_
     refine cO ?_
     refine lY ?_
     refine Eb bF (rs := d2) _ _ _ _ _ (fv := v7) (by kernel_rfl) H (fun oA _ _ H => lX (P := PP) (w0 := w0) vg.results Q (oA :: d2) (by kernel_rfl) H) (fun oA h H => ?_) (fun oA h H => ?_) (fun oA => trivial) (fun o8 Jf n9 RL R h H => ?_)
     · refine kO ?_
       exact Exists.intro (oA :: d2) (Eq.mp (by kernel_rfl) (And.intro (Eq.refl (fj (oA :: d2))) (And.intro (And.intro (Eq.refl (v3 : Value)) trivial) H)))
     · exact False.elim H
     · obtain ⟨az, ak, rfl, H⟩ := Ec H
       let E : Value → W := kM
       have H2 := Ed H
       refine ⟨H2.1, rfl, ?_⟩
       have H := H2.2
       refine b9 ?_
       refine dE (v := az) (by kernel_rfl) ?_
       refine cb ?_
       refine Ee H (fun h H => ?_)
       refine lY ?_
       refine cN ?_
       refine b9 ?_
       refine aN (vs := [v3]) (by kernel_rfl) H fun ee h H => ?_
       refine dE (v := az) (by kernel_rfl) ?_
       refine oz (vs := [ee, az]) (by kernel_rfl) H (fun _ _ H => False.elim H) fun hZ h H => ?_
       refine aN (vs := [hZ]) (by kernel_rfl) H fun eD h H => ?_
       refine cb ?_
       refine cO ?_
       refine lZ (v := eD) (by kernel_rfl) H (fun H => ?_) (fun H => ?_)
       · refine b9 ?_
         refine aN (vs := [v3]) (by kernel_rfl) H fun dX h H => ?_
         refine dE (v := az) (by kernel_rfl) ?_
         refine aN (vs := [az]) (by kernel_rfl) H fun dw h H => ?_
         refine aN (vs := [dX, dw]) (by kernel_rfl) H fun v20 h H => ?_
         refine aN (vs := [v3, v20]) (by kernel_rfl) H fun v21 h H => ?_
         refine cb ?_
         refine kO ?_
         exact Eq.mp (by kernel_rfl) (And.intro (Eq.refl ([] : List ef)) H)
       · refine mF ?_
         refine kO ?_
         exact Eq.mp (by kernel_rfl) (And.intro (Eq.refl ([] : List ef)) H)
 · refine cN ?_
   refine b9 ?_
   refine aN (vs := [v1]) (by kernel_rfl) H fun bG h H => ?_
   refine oz (vs := [bG]) (by kernel_rfl) H (fun _ _ H => lX (P := PP) (w0 := w0) vg.results Q (([] : List Nat)) (by kernel_rfl) H) fun cn h H => ?_
   refine aN (vs := [cn]) (by kernel_rfl) H fun v24 h H => ?_
   refine dE (v := v24) (by kernel_rfl) ?_
   refine zO (v := x1) (gv := v24) (by kernel_rfl) (by kernel_rfl) H fun jJ h H => ?_
   refine gm (vs := [v1]) (gv := v24) (by kernel_rfl) (by kernel_rfl) H fun aW h H => ?_
   refine gm (vs := [aW]) (gv := v24) (by kernel_rfl) (by kernel_rfl) H fun iE h H => ?_
   refine gm (vs := [iE]) (gv := v24) (by kernel_rfl) (by kernel_rfl) H fun v28 h H => ?_
   refine gm (vs := [v28, (vi 1)]) (gv := v24) (by kernel_rfl) (by kernel_rfl) H fun dz h H => ?_
   refine aaD (vs := [jJ, (vi 0), dz]) (gv := v24) (by kernel_rfl) (by kernel_rfl) H (fun _ _ H => lX (P := PP) (w0 := w0) vg.results Q (([] : List Nat)) (by kernel_rfl) H) fun v30 h H => ?_
   refine gm (vs := [v30]) (gv := v24) (by kernel_rfl) (by kernel_rfl) H fun v31 h H => ?_
   refine aN (vs := [v24, (.bool true), v31]) (by kernel_rfl) H fun fO h H => ?_
   unfold En at H
   refine cb ?_
   refine cO ?_
   refine lZ (v := fO) (by kernel_rfl) H (fun H => ?_) (fun H => ?_)
   · refine cN ?_
     refine b9 ?_
     refine dE (v := bN) (by kernel_rfl) ?_
     refine cb ?_
     refine cO ?_
     exact sV (P := PP) (w0 := w0) vg.results Q (([] : List Nat)) (by kernel_rfl) (Eq.mp (by kernel_rfl) H)
   · refine mF ?_
     exact Exists.intro (([] : List Nat)) (Eq.mp (by kernel_rfl) (And.intro (Eq.refl (fj (([] : List Nat)))) (And.intro (And.intro (Eq.refl (x1 : Value)) (And.intro (Eq.refl (v1 : Value)) trivial)) H)))
def aaE (w0 : World) (E R : Value → W) (y1 : Value) : W :=
 cl PP w0 RN [y1] E fun v2 =>
 R y1
def aaF (w0 : World) (E R : Value → W) (v3 y5 : Value) (k4 : Value → W) : W :=
 pr (.x .entry) [v3] fun v8 =>
 pr (.extract 0) [v8] fun v9 =>
 pr (.buildSlice 3 1 [(vi 0)] [(0,1)]) [v9] fun v10 =>
 pr (.append 3 1 [(vi 0)]) [y5, v10] fun v11 =>
 k4 v11
def aaG (w0 : World) (E R : Value → W) (v3 : Value) (k4 : Value → W) (y5 : Value) : W :=
 pr (.x .zP) [v3] fun v6 =>
 pr (.extract 0) [v6] fun v7 =>
 br v7 (
 aaF w0 E R v3 y5 k4) (
 aaE w0 E R  y5)
def RO (w0 : World) (E R : Value → W) (x0 : Value) : W :=
 pr (.x .JB) [x0] fun v3 =>
 LP (α := Value) (fun k a => aaG w0 E R v3 k a) (bN)
theorem aaH {w0 : World} {h : AH} {Q : CR → AH → Prop} (x0 : Value) (H : RO w0 (fun v h => Q (.aQ v) h) (fun v h => Q (.ret v) h) x0 h) : WF PP w0 JC [x0] h Q :=
 fh bF e62 [[s3]] (by kernel_rfl) (Eq.mp (by kernel_rfl) H)
def Eo (w0 : World) (E R : Value → W) (v5 : Value) (d7 : List Nat) : W :=
 pr (.ay) [v5] fun v8 =>
 cl PP w0 JC [v8] (cE (d7) E) fun v9 =>
 gC (d7) (
 R v9)
def zQ (w0 : World) (E R : Value → W) (ak : Value) (ez : Value → List Nat → W) (d18 : List Nat) : W :=
 pr (.aD .add) [ak, (vi 1)] fun dw =>
 ez dw (d18)
def Ep (w0 : World) (E R : Value → W) (v5 bG ak : Value) (ez : Value → List Nat → W) (d26 : List Nat) (bH : Value) : W :=
 br bH (
 pr (.ay) [v5] fun v51 =>
 pr (.ay) [bG] fun gB =>
 pr (.aD .add) [gB, (vi 1)] fun v53 =>
 pr (.oB 0) [v51, v53, (.bool true)] fun gI =>
 zQ w0 E R ak ez (d26)) (
 zQ w0 E R ak ez (d26))
def Er (w0 : World) (E R : Value → W) (bG v1 v5 ak : Value) (ez : Value → List Nat → W) (d26 : List Nat) (dA : Value) : W :=
 gd dA true (fun k => pr (.ay) [bG] k) fun mA =>
 gd dA true (fun k => pr (.aD .add) [mA, (vi 1)] k) fun ot =>
 gd dA true (fun k => pr (.fieldAddr 5) [v1] k) fun v46 =>
 gd dA true (fun k => pr (.ay) [v46] k) fun mB =>
 gd dA true (fun k => pr (.di) [mB] k) fun gl =>
 gd dA true (fun k => pr (.aD .lss) [ot, gl] k) fun v49 =>
 pr (.pick) [dA, v49, (.bool false)] fun bH =>
 Ep w0 E R v5 bG ak ez d26 bH
def Es (w0 : World) (E R : Value → W) (cn bG v1 v5 ak : Value) (ez : Value → List Nat → W) (d26 : List Nat) (eF : Value) : W :=
 gd eF false (fun k => pr (.fieldAddr 0) [cn] k) fun v40 =>
 gd eF false (fun k => pr (.ay) [v40] k) fun fi =>
 gd eF false (fun k => pr (.aD .eql) [fi, (vi 32)] k) fun kL =>
 pr (.pick) [eF, (.bool true), kL] fun dA =>
 Er w0 E R bG v1 v5 ak ez d26 dA
def Et (w0 : World) (E R : Value → W) (cn bG v1 v5 ak : Value) (ez : Value → List Nat → W) (d26 : List Nat) : W :=
 pr (.fieldAddr 0) [cn] fun iE =>
 pr (.ay) [iE] fun v28 =>
 cl PP w0 uQ [v28] (cE (d26) E) fun dz =>
 pr (.extract 0) [dz] fun v30 =>
 pr (.extract 1) [dz] fun v31 =>
 pr (.alloc 138 [(bs []), (vi 0), (vi 0), (vi 0), (vi 0), (vi 0), (vi 0), (.bool false), (.bool false)]) [] fun fO =>
 pr (.store 9) [fO, v30] fun iG =>
 pr (.fieldAddr 8) [fO] fun fZ =>
 pr (.ay) [fZ] fun eM =>
 gd eM false (fun k => pr (.fieldAddr 0) [cn] k) fun kK =>
 gd eM false (fun k => pr (.ay) [kK] k) fun v37 =>
 gd eM false (fun k => pr (.aD .eql) [v37, (vi 25)] k) fun iF =>
 pr (.pick) [eM, (.bool true), iF] fun eF =>
 Es w0 E R cn bG v1 v5 ak ez d26 eF
def Eu (w0 : World) (E R : Value → W) (bG v5 : Value) (vh : LO) (vj : Nat) (j5 mG : Value) : W :=
 ox vh vj (
 lz vh vj (
 pr (.cY [1, 1]) [j5, mG] fun lW =>
 pr (.ay) [bG] fun ly =>
 pr (.aD .add) [ly, (vi 1)] fun jr =>
 pr (.cY [1, 1]) [jr, (vi 0)] fun mC =>
 pr (.zR true [0, 0]) [lW, mC] fun rj =>
 br rj (
 pr (.ay) [v5] fun v70 =>
 pr (.oB 0) [v70, j5, (.bool true)] fun sU =>
 ga vh vj .ready none true R) (
 ga vh vj .ready none true R)))
def Ev (w0 : World) (E R : Value → W) (v11 ak v1 v5 : Value) (ez : Value → List Nat → W) (d17 : List Nat) : W :=
 pr (.cS 4) [v11, ak] fun v20 =>
 pr (.bL 4) [v20] fun v21 =>
 pr (.alloc 3 [(vi 0)]) [] fun bG =>
 pr (.alloc 67 [(vi 0), (vi 0), (vi 0), (vi 0)]) [] fun cn =>
 pr (.store 1) [bG, ak] fun v24 =>
 pr (.store 4) [cn, v21] fun jJ =>
 pr (.bL 7) [v1] fun jq =>
 pr (.ay) [bG] fun lA =>
 cl PP w0 w7 [jq, lA] (cE (d17) E) fun ik =>
 vd PP w0 ik (fun vh vj RP R => xa (fun j5 mG => Eu w0 kM R bG v5 vh vj j5 mG) RP) (fun oC => cE (oC :: d17) E) (fun oC z61 => rm z61 (
 Et w0 E R cn bG v1 v5 ak ez (oC :: d17)) (
 (fun _ => False)) [])
def zS (w0 : World) (E R : Value → W) (v12 v11 v1 v5 : Value) (ez : Value → List Nat → W) (ak : Value) (d15 : List Nat) : W :=
 pr (.aD .lss) [ak, v12] fun hZ =>
 br hZ (
 Ev w0 E R v11 ak v1 v5 ez (d15)) (
 Eo w0 E R v5 (d15))
def Ew (w0 : World) (E R : Value → W) (v1 : Value) (d2 : List Nat) : W :=
 pr (.mkMap) [] fun v3 =>
 pr (.oB 0) [v3, (vi 0), (.bool true)] fun v4 =>
 pr (.alloc 102 [(.map none)]) [] fun v5 =>
 pr (.store 1) [v5, v3] fun v6 =>
 pr (.fieldAddr 5) [v1] fun v10 =>
 pr (.ay) [v10] fun v11 =>
 pr (.di) [v11] fun v12 =>
 LP (α := (Value) × List Nat) (fun k a => zS w0 E R v12 v11 v1 v5 (fun b0 q => k ((b0), q)) a.1 a.2) (((vi 0)), d2)
def RQ (w0 : World) (E R : Value → W) (x0 : Value) : W :=
 pr (.box 25) [x0] fun v1 =>
 pr (.bL 7) [v1] fun v72 =>
 cl PP w0 vf [v72] (cE (([] : List Nat)) E) fun rk =>
 pr (.eE) [rk] fun ow =>
 br ow (
 gC (([] : List Nat)) (
 R bN)) (
 Ew w0 E R v1 (([] : List Nat)))
theorem aaI {w0 : World} {h : AH} {Q : CR → AH → Prop} (x0 : Value) (H : RQ w0 (fun v h => Q (.aQ v) h) (fun v h => Q (.ret v) h) x0 h) : WF PP w0 JD [x0] h Q := by
 let E : Value → W := fun v h => Q (.aQ v) h
 let R : Value → W := fun v h => Q (.ret v) h
 refine zN bF e36 ?_
 refine cN ?_
 refine b9 ?_
 refine aN (vs := [x0]) (by kernel_rfl) H fun v1 h H => ?_
 refine dE (v := bN) (by kernel_rfl) ?_
 refine cb ?_
 refine cO ?_
 refine nA (rs := ([] : List Nat)) (α := Unit) [(s1, v1)] (fun a => []) (fun σ => ()) (fun a q => Ew w0 E R v1  q) (fun σ => trivial) (fun a1 d2 σ h H => ?_) ?_
 · refine cN ?_
   refine b9 ?_
   refine aN (vs := []) (by kernel_rfl) H fun v3 h H => ?_
   refine aN (vs := [v3, (vi 0), (.bool true)]) (by kernel_rfl) H fun v4 h H => ?_
   refine dE (v := v3) (by kernel_rfl) ?_
   refine aN (vs := []) (by kernel_rfl) H fun v5 h H => ?_
   refine aN (vs := [v5, v3]) (by kernel_rfl) H fun v6 h H => ?_
   refine cb ?_
   refine cO ?_
   refine nA (rs := d2) (α := Unit) [(s3, v5)] (fun a => []) (fun σ => ()) (fun a q => Eo w0 E R v5  q) (fun σ => trivial) (fun a2 d7 σ h H => ?_) ?_
   · refine cN ?_
     refine b9 ?_
     refine aN (vs := [v5]) (by kernel_rfl) H fun v8 h H => ?_
     refine oz (vs := [v8]) (by kernel_rfl) H (fun _ _ H => lX (P := PP) (w0 := w0) sW.results Q (d7) (by kernel_rfl) H) fun v9 h H => ?_
     refine dE (v := v9) (by kernel_rfl) ?_
     refine cb ?_
     refine cO ?_
     exact sV (P := PP) (w0 := w0) sW.results Q (d7) (by kernel_rfl) (Eq.mp (by kernel_rfl) H)
   · refine cN ?_
     refine b9 ?_
     refine aN (vs := [v1]) (by kernel_rfl) H fun v10 h H => ?_
     refine aN (vs := [v10]) (by kernel_rfl) H fun v11 h H => ?_
     refine aN (vs := [v11]) (by kernel_rfl) H fun v12 h H => ?_
     refine dE (v := (vi 0)) (by kernel_rfl) ?_
     refine cb ?_
     refine cO ?_
     refine lY ?_
     refine Je bF (rs := d2) (α := Value) [(s1, v1), (s3, v5), (kJ, v11), (l3, v12)] (fun a => [(jt, a)]) (fun σ => (σ jt)) (fun k a => zS w0 E R v12 v11 v1 v5 (fun b0 q => k ((b0), q)) a.1 a.2) (fun σ => (And.intro rfl trivial)) (fun JE a3 d15 σ h H => ?_) (x := ((vi 0))) (by kernel_rfl) (Eq.mp (by kernel_rfl) (And.intro (Eq.refl (v1 : Value)) (And.intro (Eq.refl (v5 : Value)) (And.intro (Eq.refl (v11 : Value)) (And.intro (Eq.refl (v12 : Value)) trivial))))) H
     refine cN ?_
     refine b9 ?_
     refine aN (vs := [a3, v12]) (by kernel_rfl) H fun hZ h H => ?_
     refine cb ?_
     refine cO ?_
     refine nA (rs := d15) (α := Unit) [(s1, v1), (s3, v5), (kJ, v11), (l3, v12), (jt, a3)] (fun a => []) (fun σ => ()) (fun a q => Ev w0 E R v11 a3 v1 v5 (fun b0 q => JE ((b0), q))  q) (fun σ => trivial) (fun a4 d17 σ h H => ?_) ?_
     · refine nA (rs := d17) (α := Unit) [(s1, v1), (s3, v5), (kJ, v11), (l3, v12), (jt, a3)] (fun a => []) (fun σ => ()) (fun a q => zQ w0 E R a3 (fun b0 q => JE ((b0), q))  q) (fun σ => trivial) (fun a5 d18 σ h H => ?_) ?_
       · refine b9 ?_
         refine aN (vs := [a3, (vi 1)]) (by kernel_rfl) H fun dw h H => ?_
         refine dE (v := dw) (by kernel_rfl) ?_
         refine cb ?_
         exact Exists.intro (d18) (Eq.mp (by kernel_rfl) (And.intro (Eq.refl (fj (d18))) (And.intro (And.intro (Eq.refl (v1 : Value)) (And.intro (Eq.refl (v5 : Value)) (And.intro (Eq.refl (v11 : Value)) (And.intro (Eq.refl (v12 : Value)) trivial)))) H)))
       · refine lY ?_
         refine cN ?_
         refine b9 ?_
         refine dE (v := a3) (by kernel_rfl) ?_
         refine aN (vs := [v11, a3]) (by kernel_rfl) H fun v20 h H => ?_
         refine aN (vs := [v20]) (by kernel_rfl) H fun v21 h H => ?_
         refine aN (vs := []) (by kernel_rfl) H fun bG h H => ?_
         refine aN (vs := []) (by kernel_rfl) H fun cn h H => ?_
         refine aN (vs := [bG, a3]) (by kernel_rfl) H fun v24 h H => ?_
         refine aN (vs := [cn, v21]) (by kernel_rfl) H fun jJ h H => ?_
         refine cb ?_
         refine cO ?_
         refine nA (rs := d17) (α := Unit) [(s1, v1), (s3, v5), (s4, bG), (s5, cn), (kJ, v11), (l3, v12), (jt, a3)] (fun a => []) (fun σ => ()) (fun a q => Et w0 E R cn bG v1 v5 a3 (fun b0 q => JE ((b0), q))  q) (fun σ => trivial) (fun a6 d26 σ h H => ?_) ?_
         · refine cN ?_
           refine b9 ?_
           refine aN (vs := [cn]) (by kernel_rfl) H fun iE h H => ?_
           refine aN (vs := [iE]) (by kernel_rfl) H fun v28 h H => ?_
           refine oz (vs := [v28]) (by kernel_rfl) H (fun _ _ H => lX (P := PP) (w0 := w0) sW.results Q (d26) (by kernel_rfl) H) fun dz h H => ?_
           refine dE (v := dz) (by kernel_rfl) ?_
           refine aN (vs := [dz]) (by kernel_rfl) H fun v30 h H => ?_
           refine aN (vs := [dz]) (by kernel_rfl) H fun v31 h H => ?_
           refine aN (vs := []) (by kernel_rfl) H fun fO h H => ?_
           refine aN (vs := [fO, v30]) (by kernel_rfl) H fun iG h H => ?_
           refine dE (v := v31) (by kernel_rfl) ?_
           refine cb ?_
           refine cO ?_
           refine cN ?_
           refine b9 ?_
           refine aN (vs := [fO]) (by kernel_rfl) H fun fZ h H => ?_
           refine aN (vs := [fZ]) (by kernel_rfl) H fun eM h H => ?_
           refine dE (v := eM) (by kernel_rfl) ?_
           refine gm (vs := [cn]) (gv := eM) (by kernel_rfl) (by kernel_rfl) H fun kK h H => ?_
           refine gm (vs := [kK]) (gv := eM) (by kernel_rfl) (by kernel_rfl) H fun v37 h H => ?_
           refine gm (vs := [v37, (vi 25)]) (gv := eM) (by kernel_rfl) (by kernel_rfl) H fun iF h H => ?_
           refine aN (vs := [eM, (.bool true), iF]) (by kernel_rfl) H fun eF h H => ?_
           unfold Es at H
           refine dE (v := eF) (by kernel_rfl) ?_
           refine gm (vs := [cn]) (gv := eF) (by kernel_rfl) (by kernel_rfl) H fun v40 h H => ?_
           refine gm (vs := [v40]) (gv := eF) (by kernel_rfl) (by kernel_rfl) H fun fi h H => ?_
           refine gm (vs := [fi, (vi 32)]) (gv := eF) (by kernel_rfl) (by kernel_rfl) H fun kL h H => ?_
           refine aN (vs := [eF, (.bool true), kL]) (by kernel_rfl) H fun dA h H => ?_
           unfold Er at H
           refine dE (v := dA) (by kernel_rfl) ?_
           refine gm (vs := [bG]) (gv := dA) (by kernel_rfl) (by kernel_rfl) H fun mA h H => ?_
           refine gm (vs := [mA, (vi 1)]) (gv := dA) (by kernel_rfl) (by kernel_rfl) H fun ot h H => ?_
           refine gm (vs := [v1]) (gv := dA) (by kernel_rfl) (by kernel_rfl) H fun v46 h H => ?_
           refine gm (vs := [v46]) (gv := dA) (by kernel_rfl) (by kernel_rfl) H fun mB h H => ?_
           refine gm (vs := [mB]) (gv := dA) (by kernel_rfl) (by kernel_rfl) H fun gl h H => ?_
           refine gm (vs := [ot, gl]) (gv := dA) (by kernel_rfl) (by kernel_rfl) H fun v49 h H => ?_
           refine aN (vs := [dA, v49, (.bool false)]) (by kernel_rfl) H fun bH h H => ?_
           unfold Ep at H
           refine cb ?_
           refine cO ?_
           refine lZ (v := bH) (by kernel_rfl) H (fun H => ?_) (fun H => ?_)
           · refine b9 ?_
             refine aN (vs := [v5]) (by kernel_rfl) H fun v51 h H => ?_
             refine aN (vs := [bG]) (by kernel_rfl) H fun gB h H => ?_
             refine aN (vs := [gB, (vi 1)]) (by kernel_rfl) H fun v53 h H => ?_
             refine aN (vs := [v51, v53, (.bool true)]) (by kernel_rfl) H fun gI h H => ?_
             refine cb ?_
             refine kO ?_
             exact Exists.intro (d26) (Eq.mp (by kernel_rfl) (And.intro (Eq.refl (fj (d26))) (And.intro (And.intro (Eq.refl (v1 : Value)) (And.intro (Eq.refl (v5 : Value)) (And.intro (Eq.refl (v11 : Value)) (And.intro (Eq.refl (v12 : Value)) (And.intro (Eq.refl (a3 : Value)) trivial))))) H)))
           · refine mF ?_
             refine kO ?_
             exact Exists.intro (d26) (Eq.mp (by kernel_rfl) (And.intro (Eq.refl (fj (d26))) (And.intro (And.intro (Eq.refl (v1 : Value)) (And.intro (Eq.refl (v5 : Value)) (And.intro (Eq.refl (v11 : Value)) (And.intro (Eq.refl (v12 : Value)) (And.intro (Eq.refl (a3 : Value)) trivial))))) H)))
         · refine cN ?_
           refine b9 ?_
           refine aN (vs := [v1]) (by kernel_rfl) H fun jq h H => ?_
           refine aN (vs := [bG]) (by kernel_rfl) H fun lA h H => ?_
           refine oz (vs := [jq, lA]) (by kernel_rfl) H (fun _ _ H => lX (P := PP) (w0 := w0) sW.results Q (d17) (by kernel_rfl) H) fun ik h H => ?_
           refine cb ?_
           refine cO ?_
           refine lY ?_
           refine Eb bF (rs := d17) _ _ _ _ _ (fv := ik) (by kernel_rfl) H (fun oC _ _ H => lX (P := PP) (w0 := w0) sW.results Q (oC :: d17) (by kernel_rfl) H) (fun oC h H => ?_) (fun oC h H => ?_) (fun oC => trivial) (fun vh Jf vj RP R h H => ?_)
           · refine kO ?_
             exact Exists.intro (oC :: d17) (Eq.mp (by kernel_rfl) (And.intro (Eq.refl (fj (oC :: d17))) (And.intro (And.intro (Eq.refl (v1 : Value)) (And.intro (Eq.refl (v5 : Value)) (And.intro (Eq.refl (bG : Value)) (And.intro (Eq.refl (cn : Value)) (And.intro (Eq.refl (v11 : Value)) (And.intro (Eq.refl (v12 : Value)) (And.intro (Eq.refl (a3 : Value)) trivial))))))) H)))
           · exact False.elim H
           · obtain ⟨j5, mG, rfl, H⟩ := Ec H
             let E : Value → W := kM
             have H2 := Ed H
             refine ⟨H2.1, rfl, ?_⟩
             have H := H2.2
             refine cN ?_
             refine b9 ?_
             refine dE (v := j5) (by kernel_rfl) ?_
             refine cb ?_
             refine cO ?_
             refine b9 ?_
             refine dE (v := mG) (by kernel_rfl) ?_
             refine cb ?_
             refine Ee H (fun h H => ?_)
             refine lY ?_
             refine cN ?_
             refine b9 ?_
             refine dE (v := j5) (by kernel_rfl) ?_
             refine dE (v := mG) (by kernel_rfl) ?_
             refine aN (vs := [j5, mG]) (by kernel_rfl) H fun lW h H => ?_
             refine aN (vs := [bG]) (by kernel_rfl) H fun ly h H => ?_
             refine aN (vs := [ly, (vi 1)]) (by kernel_rfl) H fun jr h H => ?_
             refine aN (vs := [jr, (vi 0)]) (by kernel_rfl) H fun mC h H => ?_
             refine aN (vs := [lW, mC]) (by kernel_rfl) H fun rj h H => ?_
             refine cb ?_
             refine cO ?_
             refine lZ (v := rj) (by kernel_rfl) H (fun H => ?_) (fun H => ?_)
             · refine b9 ?_
               refine aN (vs := [v5]) (by kernel_rfl) H fun v70 h H => ?_
               refine dE (v := j5) (by kernel_rfl) ?_
               refine aN (vs := [v70, j5, (.bool true)]) (by kernel_rfl) H fun sU h H => ?_
               refine cb ?_
               refine kO ?_
               exact Eq.mp (by kernel_rfl) (And.intro (Eq.refl ([] : List ef)) H)
             · refine mF ?_
               refine kO ?_
               exact Eq.mp (by kernel_rfl) (And.intro (Eq.refl ([] : List ef)) H)
     · refine lZ (v := hZ) (by kernel_rfl) H (fun H => ?_) (fun H => ?_)
       · refine mF ?_
         exact Exists.intro (d15) (Eq.mp (by kernel_rfl) (And.intro (Eq.refl (fj (d15))) (And.intro (And.intro (Eq.refl (v1 : Value)) (And.intro (Eq.refl (v5 : Value)) (And.intro (Eq.refl (v11 : Value)) (And.intro (Eq.refl (v12 : Value)) (And.intro (Eq.refl (a3 : Value)) trivial))))) H)))
       · exact Exists.intro (d15) (Eq.mp (by kernel_rfl) (And.intro (Eq.refl (fj (d15))) (And.intro (And.intro (Eq.refl (v5 : Value)) trivial) H)))
 · refine cN ?_
   refine b9 ?_
   refine aN (vs := [v1]) (by kernel_rfl) H fun v72 h H => ?_
   refine oz (vs := [v72]) (by kernel_rfl) H (fun _ _ H => lX (P := PP) (w0 := w0) sW.results Q (([] : List Nat)) (by kernel_rfl) H) fun rk h H => ?_
   refine aN (vs := [rk]) (by kernel_rfl) H fun ow h H => ?_
   refine cb ?_
   refine cO ?_
   refine lZ (v := ow) (by kernel_rfl) H (fun H => ?_) (fun H => ?_)
   · refine cN ?_
     refine b9 ?_
     refine dE (v := bN) (by kernel_rfl) ?_
     refine cb ?_
     refine cO ?_
     exact sV (P := PP) (w0 := w0) sW.results Q (([] : List Nat)) (by kernel_rfl) (Eq.mp (by kernel_rfl) H)
   · refine mF ?_
     exact Exists.intro (([] : List Nat)) (Eq.mp (by kernel_rfl) (And.intro (Eq.refl (fj (([] : List Nat)))) (And.intro (And.intro (Eq.refl (v1 : Value)) trivial) H)))
def JF (w0 : World) (E R : Value → W) (v1 : Value) : W :=
 pr (.build [(vi 0), (vi 0), (vi 0), (vi 0), (vi 0), (vi 0), (.bool false)] []) [] fun v2 =>
 pr (.store 7) [v1, v2] fun v3 =>
 ld (.bL 7) [v1] fun v4 =>
 R (.tuple ⟨[v4, (.bool false)]⟩)
def zT (w0 : World) (E R : Value → W) (v1 x0 xc : Value) : W :=
 br xc (
 pr (.cY [1, 1, 1]) [(vi 1), (vi 1), (vi 1)] fun iG =>
 pr (.cY [1, 1]) [(vi 2), (vi 3)] fun fZ =>
 pr (.build [(vi 0), (vi 0), (vi 0), (vi 0), (vi 0), (vi 0), (.bool false)] [(0,3), (3,1), (4,2)]) [iG, (vi 1), fZ] fun eM =>
 pr (.store 7) [v1, eM] fun kK =>
 ld (.bL 7) [v1] fun v37 =>
 R (.tuple ⟨[v37, (.bool true)]⟩)) (
 pr (.aD .eql) [x0, (vi 17)] fun iF =>
 br iF (
 pr (.cY [1, 1, 1]) [(vi 1), (vi 2), (vi 5)] fun eF =>
 pr (.cY [1, 1]) [(vi 2), (vi 0)] fun v40 =>
 pr (.cY [3, 1, 2, 1]) [eF, (vi 1), v40, (.bool true)] fun fi =>
 pr (.store 7) [v1, fi] fun kL =>
 ld (.bL 7) [v1] fun dA =>
 R (.tuple ⟨[dA, (.bool true)]⟩)) (
 pr (.aD .eql) [x0, (vi 18)] fun mA =>
 br mA (
 pr (.cY [1, 1, 1]) [(vi 5), (vi 1), (vi 0)] fun ot =>
 pr (.cY [1, 1]) [(vi 2), (vi 0)] fun v46 =>
 pr (.build [(vi 0), (vi 0), (vi 0), (vi 0), (vi 0), (vi 0), (.bool false)] [(0,3), (4,2)]) [ot, v46] fun mB =>
 pr (.store 7) [v1, mB] fun gl =>
 ld (.bL 7) [v1] fun v49 =>
 R (.tuple ⟨[v49, (.bool true)]⟩)) (
 pr (.aD .eql) [x0, (vi 19)] fun bH =>
 br bH (
 pr (.cY [1, 1, 1]) [(vi 6), (vi 1), (vi 0)] fun v51 =>
 pr (.cY [1, 1]) [(vi 2), (vi 0)] fun gB =>
 pr (.build [(vi 0), (vi 0), (vi 0), (vi 0), (vi 0), (vi 0), (.bool false)] [(0,3), (4,2)]) [v51, gB] fun v53 =>
 pr (.store 7) [v1, v53] fun gI =>
 ld (.bL 7) [v1] fun jq =>
 R (.tuple ⟨[jq, (.bool true)]⟩)) (
 pr (.aD .eql) [x0, (vi 20)] fun lA =>
 br lA (
 pr (.cY [1, 1, 1]) [(vi 7), (vi 2), (vi 8)] fun ik =>
 pr (.cY [1, 1]) [(vi 2), (vi 0)] fun uZ =>
 pr (.cY [3, 1, 2, 1]) [ik, (vi 1), uZ, (.bool true)] fun v59 =>
 pr (.store 7) [v1, v59] fun pP =>
 ld (.bL 7) [v1] fun jK =>
 R (.tuple ⟨[jK, (.bool true)]⟩)) (
 pr (.aD .eql) [x0, (vi 21)] fun vk =>
 br vk (
 pr (.cY [1, 1, 1]) [(vi 1), (vi 9), (vi 4)] fun ou =>
 pr (.build [(vi 0), (vi 0), (vi 0), (vi 0), (vi 0), (vi 0), (.bool false)] [(0,3), (3,1), (6,1)]) [ou, (vi 1), (.bool true)] fun lx =>
 pr (.store 7) [v1, lx] fun lW =>
 ld (.bL 7) [v1] fun ly =>
 R (.tuple ⟨[ly, (.bool true)]⟩)) (
 pr (.aD .eql) [x0, (vi 22)] fun jr =>
 br jr (
 pr (.cY [1, 1, 1]) [(vi 1), (vi 10), (vi 0)] fun mC =>
 pr (.cY [1, 1]) [(vi 1), (vi 0)] fun rj =>
 pr (.build [(vi 0), (vi 0), (vi 0), (vi 0), (vi 0), (vi 0), (.bool false)] [(0,3), (4,2), (6,1)]) [mC, rj, (.bool true)] fun v70 =>
 pr (.store 7) [v1, v70] fun sU =>
 ld (.bL 7) [v1] fun v72 =>
 R (.tuple ⟨[v72, (.bool true)]⟩)) (
 pr (.aD .eql) [x0, (vi 23)] fun rk =>
 br rk (
 pr (.cY [1, 1, 1]) [(vi 2), (vi 0), (vi 0)] fun ow =>
 pr (.cY [1, 1]) [(vi 1), (vi 0)] fun v75 =>
 pr (.build [(vi 0), (vi 0), (vi 0), (vi 0), (vi 0), (vi 0), (.bool false)] [(0,3), (4,2), (6,1)]) [ow, v75, (.bool true)] fun v76 =>
 pr (.store 7) [v1, v76] fun mD =>
 ld (.bL 7) [v1] fun uU =>
 R (.tuple ⟨[uU, (.bool true)]⟩)) (
 pr (.aD .eql) [x0, (vi 24)] fun uV =>
 br uV (
 pr (.cY [1, 1, 1]) [(vi 11), (vi 0), (vi 0)] fun v80 =>
 pr (.build [(vi 0), (vi 0), (vi 0), (vi 0), (vi 0), (vi 0), (.bool false)] [(0,3)]) [v80] fun iH =>
 pr (.store 7) [v1, iH] fun w8 =>
 ld (.bL 7) [v1] fun uW =>
 R (.tuple ⟨[uW, (.bool true)]⟩)) (
 pr (.aD .eql) [x0, (vi 25)] fun uX =>
 br uX (
 pr (.cY [1, 1, 1]) [(vi 1), (vi 11), (vi 0)] fun v85 =>
 pr (.cY [1, 1]) [(vi 1), (vi 0)] fun rl =>
 pr (.build [(vi 0), (vi 0), (vi 0), (vi 0), (vi 0), (vi 0), (.bool false)] [(0,3), (4,2)]) [v85, rl] fun v87 =>
 pr (.store 7) [v1, v87] fun w9 =>
 ld (.bL 7) [v1] fun uY =>
 R (.tuple ⟨[uY, (.bool true)]⟩)) (
 pr (.aD .eql) [x0, (vi 26)] fun nz =>
 br nz (
 pr (.cY [1, 1, 1]) [(vi 12), (vi 0), (vi 0)] fun v91 =>
 pr (.build [(vi 0), (vi 0), (vi 0), (vi 0), (vi 0), (vi 0), (.bool false)] [(0,3), (6,1)]) [v91, (.bool true)] fun u9 =>
 pr (.store 7) [v1, u9] fun v93 =>
 ld (.bL 7) [v1] fun ve =>
 R (.tuple ⟨[ve, (.bool true)]⟩)) (
 pr (.aD .eql) [x0, (vi 27)] fun oy =>
 br oy (
 pr (.build [(vi 0), (vi 0), (vi 0), (vi 0), (vi 0), (vi 0), (.bool false)] [(6,1)]) [(.bool true)] fun JG =>
 pr (.store 7) [v1, JG] fun RR =>
 ld (.bL 7) [v1] fun rq =>
 R (.tuple ⟨[rq, (.bool true)]⟩)) (
 pr (.aD .eql) [x0, (vi 28)] fun JH =>
 br JH (
 pr (.cY [1, 1, 1]) [(vi 2), (vi 0), (vi 0)] fun JI =>
 pr (.cY [1, 1]) [(vi 1), (vi 0)] fun JJ =>
 pr (.build [(vi 0), (vi 0), (vi 0), (vi 0), (vi 0), (vi 0), (.bool false)] [(0,3), (4,2)]) [JI, JJ] fun JK =>
 pr (.store 7) [v1, JK] fun RS =>
 ld (.bL 7) [v1] fun JL =>
 R (.tuple ⟨[JL, (.bool true)]⟩)) (
 pr (.aD .eql) [x0, (vi 29)] fun v105 =>
 br v105 (
 pr (.cY [1, 1, 1]) [(vi 1), (vi 0), (vi 0)] fun pR =>
 pr (.cY [1, 1]) [(vi 1), (vi 0)] fun v107 =>
 pr (.build [(vi 0), (vi 0), (vi 0), (vi 0), (vi 0), (vi 0), (.bool false)] [(0,3), (4,2)]) [pR, v107] fun JM =>
 pr (.store 7) [v1, JM] fun v109 =>
 ld (.bL 7) [v1] fun JN =>
 R (.tuple ⟨[JN, (.bool true)]⟩)) (
 pr (.aD .eql) [x0, (vi 30)] fun JO =>
 br JO (
 pr (.cY [1, 1, 1]) [(vi 1), (vi 0), (vi 0)] fun pS =>
 pr (.cY [1, 1]) [(vi 1), (vi 0)] fun JP =>
 pr (.build [(vi 0), (vi 0), (vi 0), (vi 0), (vi 0), (vi 0), (.bool false)] [(0,3), (4,2), (6,1)]) [pS, JP, (.bool true)] fun JQ =>
 pr (.store 7) [v1, JQ] fun zU =>
 ld (.bL 7) [v1] fun JR =>
 R (.tuple ⟨[JR, (.bool true)]⟩)) (
 pr (.aD .eql) [x0, (vi 31)] fun v117 =>
 br v117 (
 pr (.build [(vi 0), (vi 0), (vi 0), (vi 0), (vi 0), (vi 0), (.bool false)] []) [] fun JS =>
 pr (.store 7) [v1, JS] fun ru =>
 ld (.bL 7) [v1] fun aaJ =>
 R (.tuple ⟨[aaJ, (.bool true)]⟩)) (
 pr (.aD .eql) [x0, (vi 32)] fun aaK =>
 br aaK (
 pr (.cY [1, 1, 1]) [(vi 1), (vi 11), (vi 0)] fun aaL =>
 pr (.cY [1, 1]) [(vi 1), (vi 0)] fun aaM =>
 pr (.build [(vi 0), (vi 0), (vi 0), (vi 0), (vi 0), (vi 0), (.bool false)] [(0,3), (4,2), (6,1)]) [aaL, aaM, (.bool true)] fun v124 =>
 pr (.store 7) [v1, v124] fun alJ =>
 ld (.bL 7) [v1] fun aaN =>
 R (.tuple ⟨[aaN, (.bool true)]⟩)) (
 pr (.aD .eql) [x0, (vi 33)] fun v127 =>
 br v127 (
 pr (.cY [1, 1, 1]) [(vi 1), (vi 13), (vi 0)] fun aaO =>
 pr (.build [(vi 0), (vi 0), (vi 0), (vi 0), (vi 0), (vi 0), (.bool false)] [(0,3), (3,1)]) [aaO, (vi 1)] fun aaP =>
 pr (.store 7) [v1, aaP] fun v130 =>
 ld (.bL 7) [v1] fun v131 =>
 R (.tuple ⟨[v131, (.bool true)]⟩)) (
 pr (.aD .eql) [x0, (vi 34)] fun aaQ =>
 br aaQ (
 pr (.cY [1, 1, 1]) [(vi 13), (vi 1), (vi 0)] fun aaR =>
 pr (.cY [1, 1]) [(vi 2), (vi 0)] fun aaS =>
 pr (.build [(vi 0), (vi 0), (vi 0), (vi 0), (vi 0), (vi 0), (.bool false)] [(0,3), (4,2)]) [aaR, aaS] fun aaT =>
 pr (.store 7) [v1, aaT] fun alK =>
 ld (.bL 7) [v1] fun aaU =>
 R (.tuple ⟨[aaU, (.bool true)]⟩)) (
 JF w0 E R v1)))))))))))))))))))
def vl (w0 : World) (E R : Value → W) (v1 x0 xd : Value) : W :=
 br xd (
 pr (.cY [1, 1, 1]) [(vi 1), (vi 1), (vi 1)] fun iE =>
 pr (.cY [1, 1]) [(vi 2), (vi 3)] fun v28 =>
 pr (.cY [3, 1, 2, 1]) [iE, (vi 1), v28, (.bool true)] fun dz =>
 pr (.store 7) [v1, dz] fun v30 =>
 ld (.bL 7) [v1] fun v31 =>
 R (.tuple ⟨[v31, (.bool true)]⟩)) (
 pr (.aD .eql) [x0, (vi 12)] fun v138 =>
 br v138 (
 zT w0 E R v1 x0 v138) (
 pr (.aD .eql) [x0, (vi 13)] fun v139 =>
 br v139 (
 zT w0 E R v1 x0 v139) (
 pr (.aD .eql) [x0, (vi 14)] fun aaV =>
 zT w0 E R v1 x0 aaV)))
def xe (w0 : World) (E R : Value → W) (v1 x0 xf : Value) : W :=
 br xf (
 pr (.cY [1, 1, 1]) [(vi 1), (vi 1), (vi 0)] fun v21 =>
 pr (.cY [1, 1]) [(vi 2), (vi 0)] fun bG =>
 pr (.build [(vi 0), (vi 0), (vi 0), (vi 0), (vi 0), (vi 0), (.bool false)] [(0,3), (3,1), (4,2)]) [v21, (vi 1), bG] fun cn =>
 pr (.store 7) [v1, cn] fun v24 =>
 ld (.bL 7) [v1] fun jJ =>
 R (.tuple ⟨[jJ, (.bool true)]⟩)) (
 pr (.aD .eql) [x0, (vi 6)] fun v141 =>
 br v141 (
 vl w0 E R v1 x0 v141) (
 pr (.aD .eql) [x0, (vi 7)] fun RT =>
 br RT (
 vl w0 E R v1 x0 RT) (
 pr (.aD .eql) [x0, (vi 8)] fun v143 =>
 br v143 (
 vl w0 E R v1 x0 v143) (
 pr (.aD .eql) [x0, (vi 9)] fun RU =>
 br RU (
 vl w0 E R v1 x0 RU) (
 pr (.aD .eql) [x0, (vi 10)] fun v145 =>
 vl w0 E R v1 x0 v145)))))
def Ex (w0 : World) (E R : Value → W) (v1 x0 mH : Value) : W :=
 br mH (
 pr (.cY [1, 1, 1]) [(vi 1), (vi 0), (vi 0)] fun hZ =>
 pr (.build [(vi 0), (vi 0), (vi 0), (vi 0), (vi 0), (vi 0), (.bool false)] [(0,3), (3,1)]) [hZ, (vi 1)] fun eD =>
 pr (.store 7) [v1, eD] fun dX =>
 ld (.bL 7) [v1] fun dw =>
 R (.tuple ⟨[dw, (.bool true)]⟩)) (
 pr (.aD .eql) [x0, (vi 4)] fun v146 =>
 br v146 (
 xe w0 E R v1 x0 v146) (
 pr (.aD .eql) [x0, (vi 11)] fun RV =>
 br RV (
 xe w0 E R v1 x0 RV) (
 pr (.aD .eql) [x0, (vi 15)] fun v148 =>
 br v148 (
 xe w0 E R v1 x0 v148) (
 pr (.aD .eql) [x0, (vi 16)] fun aaW =>
 xe w0 E R v1 x0 aaW))))
def RW (w0 : World) (E R : Value → W) (x0 : Value) : W :=
 pr (.alloc 148 [(vi 0), (vi 0), (vi 0), (vi 0), (vi 0), (vi 0), (.bool false)]) [] fun v1 =>
 pr (.aD .eql) [x0, (vi 1)] fun v5 =>
 br v5 (
 pr (.cY [1, 1, 1]) [(vi 1), (vi 3), (vi 0)] fun v6 =>
 pr (.build [(vi 0), (vi 0), (vi 0), (vi 0), (vi 0), (vi 0), (.bool false)] [(0,3), (3,1)]) [v6, (vi 1)] fun v7 =>
 pr (.store 7) [v1, v7] fun v8 =>
 ld (.bL 7) [v1] fun v9 =>
 R (.tuple ⟨[v9, (.bool true)]⟩)) (
 pr (.aD .eql) [x0, (vi 2)] fun v10 =>
 br v10 (
 pr (.cY [1, 1, 1]) [(vi 1), (vi 4), (vi 0)] fun v11 =>
 pr (.build [(vi 0), (vi 0), (vi 0), (vi 0), (vi 0), (vi 0), (.bool false)] [(0,3), (3,1)]) [v11, (vi 1)] fun v12 =>
 pr (.store 7) [v1, v12] fun ct =>
 ld (.bL 7) [v1] fun cw =>
 R (.tuple ⟨[cw, (.bool true)]⟩)) (
 pr (.aD .eql) [x0, (vi 3)] fun RX =>
 br RX (
 Ex w0 E R v1 x0 RX) (
 pr (.aD .eql) [x0, (vi 5)] fun aaX =>
 Ex w0 E R v1 x0 aaX)))
theorem aaY {w0 : World} {h : AH} {Q : CR → AH → Prop} (x0 : Value) (H : RW w0 (fun v h => Q (.aQ v) h) (fun v h => Q (.ret v) h) x0 h) : WF PP w0 JT [x0] h Q :=
 fh bF e88 [] (by kernel_rfl) (Eq.mp (by kernel_rfl) H)
def RY (w0 : World) (E R : Value → W) (x0 : Value) : W :=
 pr (.box 67) [x0] fun v1 =>
 pr (.fieldAddr 0) [v1] fun v2 =>
 pr (.ay) [v2] fun v3 =>
 cl PP w0 JT [v3] E fun v4 =>
 pr (.extract 0) [v4] fun v5 =>
 pr (.extract 1) [v4] fun v6 =>
 pr (.alloc 148 [(vi 0), (vi 0), (vi 0), (vi 0), (vi 0), (vi 0), (.bool false)]) [] fun v7 =>
 pr (.store 7) [v7, v5] fun v8 =>
 pr (.fieldAddr 6) [v7] fun v9 =>
 pr (.ay) [v9] fun v10 =>
 R v10
theorem aaZ {w0 : World} {h : AH} {Q : CR → AH → Prop} (x0 : Value) (H : RY w0 (fun v h => Q (.aQ v) h) (fun v h => Q (.ret v) h) x0 h) : WF PP w0 JU [x0] h Q :=
 fh bF e43 [] (by kernel_rfl) (Eq.mp (by kernel_rfl) H)
def Ey (w0 : World) (E R : Value → W) (v8 v3 : Value) (d16 : List Nat) : W :=
 pr (.ay) [v8] fun eD =>
 pr (.store 1) [v3, eD] fun dX =>
 gC (d16) (
 ld (.ay) [v3] fun dw =>
 R dw)
def Ez (w0 : World) (E R : Value → W) (v8 cT v11 : Value) (oD : LO) (oE : Nat) : W :=
 pr (.ay) [v8] fun gl =>
 pr (.cS 1) [gl, cT] fun v49 =>
 pr (.ay) [v49] fun bH =>
 pr (.eE) [bH] fun v51 =>
 br v51 (
 pr (.ay) [v8] fun gB =>
 pr (.cS 1) [gB, cT] fun v53 =>
 pr (.store 1) [v53, (.bool true)] fun gI =>
 pr (.ay) [v11] fun jq =>
 pr (.buildSlice 3 1 [(vi 0)] [(0,1)]) [cT] fun lA =>
 pr (.append 3 1 [(vi 0)]) [jq, lA] fun ik =>
 pr (.store 1) [v11, ik] fun uZ =>
 ga oD oE .ready none true R) (
 ga oD oE .ready none true R)
def EA (w0 : World) (E R : Value → W) (v2 dz v3 v8 v11 : Value) (oD : LO) (oE : Nat) (cT mI : Value) : W :=
 ox oD oE (
 lz oD oE (
 pr (.ay) [v2] fun v59 =>
 pr (.ay) [dz] fun pP =>
 dy PP w0 [v59, pP, cT, mI] kM fun jK =>
 pr (.eE) [jK] fun vk =>
 br vk (
 pr (.store 1) [v3, bN] fun ou =>
 ga oD oE .done (some .ret) false R) (
 Ez w0 E R v8 cT v11 oD oE)))
def EB (w0 : World) (E R : Value → W) (v11 v1 v2 v3 v8 : Value) (rv : List Nat → W) (d22 : List Nat) : W :=
 pr (.ay) [v11] fun cn =>
 pr (.ay) [v11] fun v24 =>
 pr (.di) [v24] fun jJ =>
 pr (.aD .sub) [jJ, (vi 1)] fun aW =>
 pr (.cS 1) [cn, aW] fun iE =>
 pr (.ay) [iE] fun v28 =>
 pr (.alloc 3 [(vi 0)]) [] fun dz =>
 pr (.store 1) [dz, v28] fun v30 =>
 pr (.ay) [v11] fun v31 =>
 pr (.ay) [v11] fun fO =>
 pr (.di) [fO] fun iG =>
 pr (.aD .sub) [iG, (vi 1)] fun fZ =>
 pr (.slice 1 false true false) [v31, fZ] fun eM =>
 pr (.store 1) [v11, eM] fun kK =>
 pr (.bL 7) [v1] fun v37 =>
 pr (.ay) [dz] fun iF =>
 cl PP w0 w7 [v37, iF] (cE (d22) E) fun eF =>
 vd PP w0 eF (fun oD oE RZ R => xa (fun cT mI => EA w0 kM R v2 dz v3 v8 v11 oD oE cT mI) RZ) (fun mJ => cE (mJ :: d22) E) (fun mJ z43 => rm z43 (
 rv (mJ :: d22)) (
 gC (mJ :: d22) (
 ld (.ay) [v3] fun mB =>
 R mB)) [])
def zV (w0 : World) (E R : Value → W) (v11 v1 v2 v3 v8 : Value) (rv : List Nat → W) (d21 : List Nat) : W :=
 pr (.ay) [v11] fun lx =>
 pr (.di) [lx] fun lW =>
 pr (.aD .gtr) [lW, (vi 0)] fun ly =>
 br ly (
 EB w0 E R v11 v1 v2 v3 v8 rv (d21)) (
 Ey w0 E R v8 v3 (d21))
def R0 (w0 : World) (E R : Value → W) (x0 x1 : Value) : W :=
 pr (.box 25) [x0] fun v1 =>
 pr (.box 100) [x1] fun v2 =>
 pr (.alloc 39 [bN]) [] fun v3 =>
 pr (.fieldAddr 5) [v1] fun v4 =>
 pr (.ay) [v4] fun v5 =>
 pr (.di) [v5] fun v6 =>
 pr (.mkSlice 4 1 [(.bool false)]) [v6, v6] fun v7 =>
 pr (.alloc 39 [bN]) [] fun v8 =>
 pr (.store 1) [v8, v7] fun v9 =>
 pr (.buildSlice 3 1 [(vi 0)] [(0,1)]) [(vi 0)] fun v10 =>
 pr (.alloc 28 [bN]) [] fun v11 =>
 pr (.store 1) [v11, v10] fun v12 =>
 pr (.ay) [v8] fun ct =>
 pr (.cS 1) [ct, (vi 0)] fun cw =>
 pr (.store 1) [cw, (.bool true)] fun ee =>
 LP (α := (Unit) × List Nat) (fun k a => zV w0 E R v11 v1 v2 v3 v8 (fun  q => k ((), q)) a.2) ((), ([] : List Nat))
theorem aa0 {w0 : World} {h : AH} {Q : CR → AH → Prop} (x0 : Value) (x1 : Value) (H : R0 w0 (fun v h => Q (.aQ v) h) (fun v h => Q (.ret v) h) x0 x1 h) : WF PP w0 JV [x0, x1] h Q := by
 let E : Value → W := fun v h => Q (.aQ v) h
 let R : Value → W := fun v h => Q (.ret v) h
 refine zN bF e78 ?_
 refine cN ?_
 refine b9 ?_
 refine aN (vs := [x0]) (by kernel_rfl) H fun v1 h H => ?_
 refine aN (vs := [x1]) (by kernel_rfl) H fun v2 h H => ?_
 refine aN (vs := []) (by kernel_rfl) H fun v3 h H => ?_
 refine cb ?_
 refine cO ?_
 refine cN ?_
 refine b9 ?_
 refine aN (vs := [v1]) (by kernel_rfl) H fun v4 h H => ?_
 refine aN (vs := [v4]) (by kernel_rfl) H fun v5 h H => ?_
 refine aN (vs := [v5]) (by kernel_rfl) H fun v6 h H => ?_
 refine aN (vs := [v6, v6]) (by kernel_rfl) H fun v7 h H => ?_
 refine aN (vs := []) (by kernel_rfl) H fun v8 h H => ?_
 refine aN (vs := [v8, v7]) (by kernel_rfl) H fun v9 h H => ?_
 refine cb ?_
 refine cO ?_
 refine cN ?_
 refine b9 ?_
 refine aN (vs := [(vi 0)]) (by kernel_rfl) H fun v10 h H => ?_
 refine aN (vs := []) (by kernel_rfl) H fun v11 h H => ?_
 refine aN (vs := [v11, v10]) (by kernel_rfl) H fun v12 h H => ?_
 refine cb ?_
 refine cO ?_
 refine cN ?_
 refine b9 ?_
 refine aN (vs := [v8]) (by kernel_rfl) H fun ct h H => ?_
 refine aN (vs := [ct, (vi 0)]) (by kernel_rfl) H fun cw h H => ?_
 refine aN (vs := [cw, (.bool true)]) (by kernel_rfl) H fun ee h H => ?_
 refine cb ?_
 refine cO ?_
 refine nA (rs := ([] : List Nat)) (α := Unit) [(s4, v3), (s5, v8)] (fun a => []) (fun σ => ()) (fun a q => Ey w0 E R v8 v3  q) (fun σ => trivial) (fun a1 d16 σ h H => ?_) ?_
 · refine cN ?_
   refine b9 ?_
   refine aN (vs := [v8]) (by kernel_rfl) H fun eD h H => ?_
   refine aN (vs := [v3, eD]) (by kernel_rfl) H fun dX h H => ?_
   refine cb ?_
   refine cO ?_
   exact sV (P := PP) (w0 := w0) zW.results Q (d16) (by kernel_rfl) (Eq.mp (by kernel_rfl) H)
 · refine lY ?_
   refine Je bF (rs := ([] : List Nat)) (α := Unit) [(s2, v1), (s3, v2), (s4, v3), (s5, v8), (s6, v11)] (fun a => []) (fun σ => ()) (fun k a => zV w0 E R v11 v1 v2 v3 v8 (fun  q => k ((), q)) a.2) (fun σ => trivial) (fun Ea a2 d21 σ h H => ?_) (x := ()) (by kernel_rfl) (Eq.mp (by kernel_rfl) (And.intro (Eq.refl (v1 : Value)) (And.intro (Eq.refl (v2 : Value)) (And.intro (Eq.refl (v3 : Value)) (And.intro (Eq.refl (v8 : Value)) (And.intro (Eq.refl (v11 : Value)) trivial)))))) H
   refine nA (rs := d21) (α := Unit) [(s2, v1), (s3, v2), (s4, v3), (s5, v8), (s6, v11)] (fun a => []) (fun σ => ()) (fun a q => EB w0 E R v11 v1 v2 v3 v8 (fun  q => Ea ((), q))  q) (fun σ => trivial) (fun a3 d22 σ h H => ?_) ?_
   · refine lY ?_
     refine cN ?_
     refine b9 ?_
     refine aN (vs := [v11]) (by kernel_rfl) H fun cn h H => ?_
     refine aN (vs := [v11]) (by kernel_rfl) H fun v24 h H => ?_
     refine aN (vs := [v24]) (by kernel_rfl) H fun jJ h H => ?_
     refine aN (vs := [jJ, (vi 1)]) (by kernel_rfl) H fun aW h H => ?_
     refine aN (vs := [cn, aW]) (by kernel_rfl) H fun iE h H => ?_
     refine aN (vs := [iE]) (by kernel_rfl) H fun v28 h H => ?_
     refine aN (vs := []) (by kernel_rfl) H fun dz h H => ?_
     refine aN (vs := [dz, v28]) (by kernel_rfl) H fun v30 h H => ?_
     refine cb ?_
     refine cO ?_
     refine cN ?_
     refine b9 ?_
     refine aN (vs := [v11]) (by kernel_rfl) H fun v31 h H => ?_
     refine aN (vs := [v11]) (by kernel_rfl) H fun fO h H => ?_
     refine aN (vs := [fO]) (by kernel_rfl) H fun iG h H => ?_
     refine aN (vs := [iG, (vi 1)]) (by kernel_rfl) H fun fZ h H => ?_
     refine aN (vs := [v31, fZ]) (by kernel_rfl) H fun eM h H => ?_
     refine aN (vs := [v11, eM]) (by kernel_rfl) H fun kK h H => ?_
     refine cb ?_
     refine cO ?_
     refine cN ?_
     refine b9 ?_
     refine aN (vs := [v1]) (by kernel_rfl) H fun v37 h H => ?_
     refine aN (vs := [dz]) (by kernel_rfl) H fun iF h H => ?_
     refine oz (vs := [v37, iF]) (by kernel_rfl) H (fun _ _ H => lX (P := PP) (w0 := w0) zW.results Q (d22) (by kernel_rfl) H) fun eF h H => ?_
     refine cb ?_
     refine cO ?_
     refine lY ?_
     refine Eb bF (rs := d22) _ _ _ _ _ (fv := eF) (by kernel_rfl) H (fun mJ _ _ H => lX (P := PP) (w0 := w0) zW.results Q (mJ :: d22) (by kernel_rfl) H) (fun mJ h H => ?_) (fun mJ h H => ?_) (fun mJ => trivial) (fun oD Jf oE RZ R h H => ?_)
     · refine kO ?_
       refine kO ?_
       exact Exists.intro (mJ :: d22) (Eq.mp (by kernel_rfl) (And.intro (Eq.refl (fj (mJ :: d22))) (And.intro (And.intro (Eq.refl (v1 : Value)) (And.intro (Eq.refl (v2 : Value)) (And.intro (Eq.refl (v3 : Value)) (And.intro (Eq.refl (v8 : Value)) (And.intro (Eq.refl (v11 : Value)) trivial))))) H)))
     · exact sV (P := PP) (w0 := w0) zW.results Q (mJ :: d22) (by kernel_rfl) (Eq.mp (by kernel_rfl) H)
     · obtain ⟨cT, mI, rfl, H⟩ := Ec H
       let E : Value → W := kM
       have H2 := Ed H
       refine ⟨H2.1, rfl, ?_⟩
       have H := H2.2
       refine cN ?_
       refine b9 ?_
       refine dE (v := cT) (by kernel_rfl) ?_
       refine cb ?_
       refine cO ?_
       refine b9 ?_
       refine dE (v := mI) (by kernel_rfl) ?_
       refine cb ?_
       refine Ee H (fun h H => ?_)
       refine lY ?_
       refine Jg (α := Unit) [(s5, v8), (s6, v11), (s8, cT)] (fun a => []) (fun σ => ()) (fun a => Ez w0 E R v8 cT v11 oD oE ) (fun σ => trivial) (fun a4 σ h H => ?_) ?_
       · refine cN ?_
         refine b9 ?_
         refine aN (vs := [v8]) (by kernel_rfl) H fun gl h H => ?_
         refine dE (v := cT) (by kernel_rfl) ?_
         refine aN (vs := [gl, cT]) (by kernel_rfl) H fun v49 h H => ?_
         refine aN (vs := [v49]) (by kernel_rfl) H fun bH h H => ?_
         refine aN (vs := [bH]) (by kernel_rfl) H fun v51 h H => ?_
         refine cb ?_
         refine cO ?_
         refine lZ (v := v51) (by kernel_rfl) H (fun H => ?_) (fun H => ?_)
         · refine cN ?_
           refine b9 ?_
           refine aN (vs := [v8]) (by kernel_rfl) H fun gB h H => ?_
           refine dE (v := cT) (by kernel_rfl) ?_
           refine aN (vs := [gB, cT]) (by kernel_rfl) H fun v53 h H => ?_
           refine aN (vs := [v53, (.bool true)]) (by kernel_rfl) H fun gI h H => ?_
           refine cb ?_
           refine cO ?_
           refine b9 ?_
           refine aN (vs := [v11]) (by kernel_rfl) H fun jq h H => ?_
           refine dE (v := cT) (by kernel_rfl) ?_
           refine aN (vs := [cT]) (by kernel_rfl) H fun lA h H => ?_
           refine aN (vs := [jq, lA]) (by kernel_rfl) H fun ik h H => ?_
           refine aN (vs := [v11, ik]) (by kernel_rfl) H fun uZ h H => ?_
           refine cb ?_
           refine kO ?_
           exact Eq.mp (by kernel_rfl) (And.intro (Eq.refl ([] : List ef)) H)
         · refine mF ?_
           refine kO ?_
           exact Eq.mp (by kernel_rfl) (And.intro (Eq.refl ([] : List ef)) H)
       · refine cN ?_
         refine b9 ?_
         refine aN (vs := [v2]) (by kernel_rfl) H fun v59 h H => ?_
         refine aN (vs := [dz]) (by kernel_rfl) H fun pP h H => ?_
         refine dE (v := cT) (by kernel_rfl) ?_
         refine dE (v := mI) (by kernel_rfl) ?_
         refine aa1 (vs := [v59, pP, cT, mI]) (by kernel_rfl) H (fun _ _ H => False.elim H) fun jK h H => ?_
         refine aN (vs := [jK]) (by kernel_rfl) H fun vk h H => ?_
         refine cb ?_
         refine cO ?_
         refine lZ (v := vk) (by kernel_rfl) H (fun H => ?_) (fun H => ?_)
         · refine cN ?_
           refine b9 ?_
           refine aN (vs := [v3, bN]) (by kernel_rfl) H fun ou h H => ?_
           refine cb ?_
           refine cO ?_
           exact Eq.mp (by kernel_rfl) (And.intro (Eq.refl ([] : List ef)) H)
         · refine mF ?_
           exact Eq.mp (by kernel_rfl) (And.intro (Eq.refl (⟨[], .off⟩ : DS)) (And.intro (And.intro (Eq.refl (v8 : Value)) (And.intro (Eq.refl (v11 : Value)) (And.intro (Eq.refl (cT : Value)) trivial))) H))
   · refine cN ?_
     refine b9 ?_
     refine aN (vs := [v11]) (by kernel_rfl) H fun lx h H => ?_
     refine aN (vs := [lx]) (by kernel_rfl) H fun lW h H => ?_
     refine aN (vs := [lW, (vi 0)]) (by kernel_rfl) H fun ly h H => ?_
     refine cb ?_
     refine cO ?_
     refine lZ (v := ly) (by kernel_rfl) H (fun H => ?_) (fun H => ?_)
     · refine mF ?_
       exact Exists.intro (d21) (Eq.mp (by kernel_rfl) (And.intro (Eq.refl (fj (d21))) (And.intro (And.intro (Eq.refl (v1 : Value)) (And.intro (Eq.refl (v2 : Value)) (And.intro (Eq.refl (v3 : Value)) (And.intro (Eq.refl (v8 : Value)) (And.intro (Eq.refl (v11 : Value)) trivial))))) H)))
     · exact Exists.intro (d21) (Eq.mp (by kernel_rfl) (And.intro (Eq.refl (fj (d21))) (And.intro (And.intro (Eq.refl (v3 : Value)) (And.intro (Eq.refl (v8 : Value)) trivial)) H)))
def R3 (w0 : World) (E R : Value → W) (x0 x1 x2 : Value) : W :=
 R (.bool true)
theorem aa2 {w0 : World} {h : AH} {Q : CR → AH → Prop} (x0 x1 x2 : Value) (H : R3 w0 (fun v h => Q (.aQ v) h) (fun v h => Q (.ret v) h) x0 x1 x2 h) : WF PP w0 EC [x0, x1, x2] h Q :=
 fh bF e79 [] (by kernel_rfl) (Eq.mp (by kernel_rfl) H)
def JW (w0 : World) (E R : Value → W) (v1 : Value) : W :=
 pr (.bL 7) [v1] fun v2 =>
 cl PP w0 JV [v2, (fc EC)] E fun v3 =>
 R v3
def R4 (w0 : World) (E R : Value → W) (x0 : Value) : W :=
 pr (.box 25) [x0] fun v1 =>
 pr (.bL 7) [v1] fun v4 =>
 cl PP w0 vf [v4] E fun v5 =>
 pr (.eE) [v5] fun v6 =>
 br v6 (
 R bN) (
 JW w0 E R v1)
theorem aa3 {w0 : World} {h : AH} {Q : CR → AH → Prop} (x0 : Value) (H : R4 w0 (fun v h => Q (.aQ v) h) (fun v h => Q (.ret v) h) x0 h) : WF PP w0 ED [x0] h Q :=
 fh bF e28 [] (by kernel_rfl) (Eq.mp (by kernel_rfl) H)
def JX (w0 : World) (E R : Value → W) (v1 x1 : Value) : W :=
 pr (.bL 7) [v1] fun v2 =>
 cl PP w0 DZ [v2, x1] E fun v3 =>
 R v3
def JY (w0 : World) (E R : Value → W) (v1 x1 cw : Value) : W :=
 br cw (
 R (vi (-1))) (
 JX w0 E R v1 x1)
def R5 (w0 : World) (E R : Value → W) (x0 x1 : Value) : W :=
 pr (.box 25) [x0] fun v1 =>
 pr (.bL 7) [v1] fun v4 =>
 cl PP w0 vf [v4] E fun v5 =>
 pr (.eE) [v5] fun v6 =>
 gd v6 false (fun k => k x1) fun v7 =>
 gd v6 false (fun k => pr (.fieldAddr 5) [v1] k) fun v8 =>
 gd v6 false (fun k => pr (.ay) [v8] k) fun v9 =>
 gd v6 false (fun k => pr (.di) [v9] k) fun v10 =>
 gd v6 false (fun k => pr (.aD .sub) [v10, (vi 1)] k) fun v11 =>
 gd v6 false (fun k => cl PP w0 pO [v7, (vi 0), v11] E k) fun v12 =>
 gd v6 false (fun k => pr (.eE) [v12] k) fun ct =>
 pr (.pick) [v6, (.bool true), ct] fun cw =>
 JY w0 E R v1 x1 cw
theorem aa4 {w0 : World} {h : AH} {Q : CR → AH → Prop} (x0 x1 : Value) (H : R5 w0 (fun v h => Q (.aQ v) h) (fun v h => Q (.ret v) h) x0 x1 h) : WF PP w0 JZ [x0, x1] h Q :=
 fh bF e40 [] (by kernel_rfl) (Eq.mp (by kernel_rfl) H)
def J0 (w0 : World) (E R : Value → W) (v1 dX : Value) : W :=
 gd dX true (fun k => pr (.fieldAddr 5) [v1] k) fun dw =>
 gd dX true (fun k => pr (.ay) [dw] k) fun v20 =>
 gd dX true (fun k => pr (.di) [v20] k) fun v21 =>
 gd dX true (fun k => pr (.aD .gtr) [v21, (vi 0)] k) fun bG =>
 pr (.pick) [dX, bG, (.bool false)] fun cn =>
 R cn
def J2 (w0 : World) (E R : Value → W) (v1 v10 : Value) : W :=
 gd v10 true (fun k => pr (.bL 7) [v1] k) fun v11 =>
 gd v10 true (fun k => pr (.fieldAddr 5) [v1] k) fun v12 =>
 gd v10 true (fun k => pr (.ay) [v12] k) fun ct =>
 gd v10 true (fun k => pr (.di) [ct] k) fun cw =>
 gd v10 true (fun k => cl PP w0 ED [v11] E k) fun ee =>
 gk v10 true (fun k => ck (.di) [ct] cw k) (
 gk v10 true (fun k => ck (.ay) [v12] ct k) (
 gk v10 true (fun k => ck (.fieldAddr 5) [v1] v12 k) (
 gd v10 true (fun k => pr (.di) [ee] k) fun hZ =>
 gd v10 true (fun k => pr (.aD .eql) [hZ, cw] k) fun eD =>
 pr (.pick) [v10, eD, (.bool false)] fun dX =>
 J0 w0 E R v1 dX)))
def R6 (w0 : World) (E R : Value → W) (x0 : Value) : W :=
 pr (.box 25) [x0] fun v1 =>
 pr (.fieldAddr 5) [v1] fun v2 =>
 pr (.ay) [v2] fun v3 =>
 pr (.di) [v3] fun v4 =>
 pr (.aD .leq) [v4, (vi 40)] fun v5 =>
 gd v5 true (fun k => pr (.fieldAddr 6) [v1] k) fun v6 =>
 gd v5 true (fun k => pr (.ay) [v6] k) fun v7 =>
 gd v5 true (fun k => pr (.di) [v7] k) fun v8 =>
 gd v5 true (fun k => pr (.aD .leq) [v8, (vi 8)] k) fun v9 =>
 pr (.pick) [v5, v9, (.bool false)] fun v10 =>
 J2 w0 E R v1 v10
theorem aa5 {w0 : World} {h : AH} {Q : CR → AH → Prop} (x0 : Value) (H : R6 w0 (fun v h => Q (.aQ v) h) (fun v h => Q (.ret v) h) x0 h) : WF PP w0 J3 [x0] h Q :=
 fh bF e42 [] (by kernel_rfl) (Eq.mp (by kernel_rfl) H)
def J4 (w0 : World) (E R : Value → W)  : W :=
 R (.bool false)
def J5 (w0 : World) (E R : Value → W) (y2 : Value) (k1 : Value → W) : W :=
 pr (.aD .add) [y2, (vi 1)] fun v3 =>
 k1 v3
def J6 (w0 : World) (E R : Value → W) (x0 y2 x1 : Value) (k1 : Value → W) : W :=
 pr (.cS 1) [x0, y2] fun v4 =>
 pr (.ay) [v4] fun v5 =>
 pr (.aD .eql) [v5, x1] fun v6 =>
 br v6 (
 R (.bool true)) (
 J5 w0 E R y2 k1)
def EE (w0 : World) (E R : Value → W) (x0 x1 : Value) (k1 : Value → W) (y2 : Value) : W :=
 pr (.di) [x0] fun v7 =>
 pr (.aD .lss) [y2, v7] fun v8 =>
 br v8 (
 J6 w0 E R x0 y2 x1 k1) (
 J4 w0 E R )
def R7 (w0 : World) (E R : Value → W) (x0 x1 : Value) : W :=
 LP (α := Value) (fun k a => EE w0 E R x0 x1 k a) ((vi 0))
theorem aa6 {w0 : World} {h : AH} {Q : CR → AH → Prop} (x0 x1 : Value) (H : R7 w0 (fun v h => Q (.aQ v) h) (fun v h => Q (.ret v) h) x0 x1 h) : WF PP w0 J7 [x0, x1] h Q :=
 fh bF e44 [[s5]] (by kernel_rfl) (Eq.mp (by kernel_rfl) H)
def J8 (w0 : World) (E R : Value → W) (v2 : Value) : W :=
 R v2
def J9 (w0 : World) (E R : Value → W) (ak : Value) (bA : Value → Value → Value → W) (mH cG : Value) : W :=
 pr (.aD .add) [ak, (vi 1)] fun eD =>
 bA mH cG eD
def xg (w0 : World) (E R : Value → W) (ak : Value) (bA : Value → Value → Value → W) (aW xh : Value) : W :=
 J9 w0 E R ak bA aW xh
def Ka (w0 : World) (E R : Value → W) (az ak : Value) (bA : Value → Value → Value → W) (aW mD : Value) : W :=
 br mD (
 pr (.aD .sub) [az, (vi 1)] fun uU =>
 xg w0 E R ak bA aW uU) (
 xg w0 E R ak bA aW az)
def Kb (w0 : World) (E R : Value → W) (ak : Value) (bA : Value → Value → Value → W) (aW v31 az v1 aR jK : Value) : W :=
 br jK (
 xg w0 E R ak bA aW (vi 0)) (
 pr (.aD .eql) [v31, (vi 30)] fun vk =>
 br vk (
 pr (.aD .add) [az, (vi 1)] fun ou =>
 xg w0 E R ak bA aW ou) (
 pr (.aD .eql) [v31, (vi 31)] fun lx =>
 gd lx false (fun k => k v31) fun lW =>
 gd lx false (fun k => pr (.aD .eql) [lW, (vi 32)] k) fun ly =>
 gd lx false (fun k => k ly) fun jr =>
 gd jr true (fun k => k aW) fun mC =>
 gd jr true (fun k => pr (.fieldAddr 5) [v1] k) fun rj =>
 gd jr true (fun k => pr (.ay) [rj] k) fun v70 =>
 gd jr true (fun k => k aR) fun sU =>
 gd jr true (fun k => pr (.cS 4) [v70, sU] k) fun v72 =>
 gd jr true (fun k => pr (.fieldAddr 2) [v72] k) fun rk =>
 gd jr true (fun k => pr (.ay) [rk] k) fun ow =>
 gd jr true (fun k => pr (.aD .eql) [mC, ow] k) fun v75 =>
 gd lx false (fun k => pr (.pick) [jr, v75, (.bool false)] k) fun v76 =>
 pr (.pick) [lx, (.bool true), v76] fun mD =>
 Ka w0 E R az ak bA aW mD))
def Kc (w0 : World) (E R : Value → W) (v10 bH ak : Value) (bA : Value → Value → Value → W) (aW v31 az v1 aR : Value) : W :=
 pr (.aD .eql) [v10, (vi 0)] fun v59 =>
 gd v59 true (fun k => k bH) fun pP =>
 pr (.pick) [v59, pP, (.bool false)] fun jK =>
 Kb w0 E R ak bA aW v31 az v1 aR jK
def Kd (w0 : World) (E R : Value → W) (v10 bH ak : Value) (bA : Value → Value → Value → W) (aW v31 az v1 aR nz : Value) : W :=
 br nz (
 R (.bool false)) (
 Kc w0 E R v10 bH ak bA aW v31 az v1 aR)
def Ke (w0 : World) (E R : Value → W) (v6 aW v10 bH ak : Value) (bA : Value → Value → Value → W) (v31 az v1 aR v85 : Value) : W :=
 gd v85 true (fun k => k v6) fun rl =>
 gd v85 true (fun k => k aW) fun v87 =>
 gd v85 true (fun k => cl PP w0 J7 [rl, v87] E k) fun w9 =>
 gd v85 true (fun k => pr (.eE) [w9] k) fun uY =>
 pr (.pick) [v85, uY, (.bool false)] fun nz =>
 Kd w0 E R v10 bH ak bA aW v31 az v1 aR nz
def Kf (w0 : World) (E R : Value → W) (aW aR v6 v10 bH ak : Value) (bA : Value → Value → Value → W) (v31 az v1 v80 : Value) : W :=
 gd v80 false (fun k => k aW) fun iH =>
 gd v80 false (fun k => k aR) fun w8 =>
 gd v80 false (fun k => pr (.aD .add) [w8, (vi 1)] k) fun uW =>
 gd v80 false (fun k => pr (.aD .neq) [iH, uW] k) fun uX =>
 pr (.pick) [v80, (.bool true), uX] fun v85 =>
 Ke w0 E R v6 aW v10 bH ak bA v31 az v1 aR v85
def Kg (w0 : World) (E R : Value → W) (bH aW aR v6 v10 ak : Value) (bA : Value → Value → Value → W) (v31 az v1 ik : Value) : W :=
 gd bH false (fun k => k ik) fun uV =>
 pr (.pick) [bH, (.bool true), uV] fun v80 =>
 Kf w0 E R aW aR v6 v10 bH ak bA v31 az v1 v80
def Kh (w0 : World) (E R : Value → W) (v31 bH aW aR v6 v10 ak : Value) (bA : Value → Value → Value → W) (az v1 gI : Value) : W :=
 gd gI false (fun k => k v31) fun jq =>
 gd gI false (fun k => pr (.aD .eql) [jq, (vi 32)] k) fun lA =>
 pr (.pick) [gI, (.bool true), lA] fun ik =>
 Kg w0 E R bH aW aR v6 v10 ak bA v31 az v1 ik
def Ki (w0 : World) (E R : Value → W) (v31 aW aR v6 v10 ak : Value) (bA : Value → Value → Value → W) (az v1 bH : Value) : W :=
 pr (.aD .eql) [v31, (vi 24)] fun v51 =>
 gd v51 false (fun k => k v31) fun gB =>
 gd v51 false (fun k => pr (.aD .eql) [gB, (vi 25)] k) fun v53 =>
 pr (.pick) [v51, (.bool true), v53] fun gI =>
 Kh w0 E R v31 bH aW aR v6 v10 ak bA az v1 gI
def Kj (w0 : World) (E R : Value → W) (v1 iG aW v31 aR v6 v10 ak : Value) (bA : Value → Value → Value → W) (az fi : Value) : W :=
 gd fi true (fun k => pr (.fieldAddr 6) [v1] k) fun kL =>
 gd fi true (fun k => pr (.ay) [kL] k) fun dA =>
 gd fi true (fun k => k iG) fun mA =>
 gd fi true (fun k => pr (.cS 3) [dA, mA] k) fun ot =>
 gd fi true (fun k => pr (.fieldAddr 2) [ot] k) fun v46 =>
 gd fi true (fun k => pr (.ay) [v46] k) fun mB =>
 gd fi true (fun k => k aW) fun gl =>
 gd fi true (fun k => pr (.aD .eql) [mB, gl] k) fun v49 =>
 pr (.pick) [fi, v49, (.bool false)] fun bH =>
 Ki w0 E R v31 aW aR v6 v10 ak bA az v1 bH
def Kk (w0 : World) (E R : Value → W) (x1 ak dw v1 aR v6 v10 : Value) (bA : Value → Value → Value → W) (az : Value) : W :=
 pr (.cS 1) [x1, ak] fun v20 =>
 pr (.ay) [v20] fun v21 =>
 pr (.conv .i64) [v21] fun bG =>
 pr (.di) [dw] fun cn =>
 pr (.aD .rem) [bG, cn] fun v24 =>
 pr (.cS 1) [dw, v24] fun jJ =>
 pr (.ay) [jJ] fun aW =>
 pr (.fieldAddr 5) [v1] fun iE =>
 pr (.ay) [iE] fun v28 =>
 pr (.cS 4) [v28, aR] fun dz =>
 pr (.fieldAddr 0) [dz] fun v30 =>
 pr (.ay) [v30] fun v31 =>
 pr (.bL 7) [v1] fun fO =>
 cl PP w0 JZ [fO, aR] E fun iG =>
 pr (.aD .geq) [iG, (vi 0)] fun fZ =>
 gd fZ true (fun k => pr (.fieldAddr 5) [v1] k) fun eM =>
 gd fZ true (fun k => pr (.ay) [eM] k) fun kK =>
 gd fZ true (fun k => k aR) fun v37 =>
 gd fZ true (fun k => pr (.cS 4) [kK, v37] k) fun iF =>
 gd fZ true (fun k => pr (.bL 4) [iF] k) fun eF =>
 gd fZ true (fun k => cl PP w0 JU [eF] E k) fun v40 =>
 pr (.pick) [fZ, v40, (.bool false)] fun fi =>
 Kj w0 E R v1 iG aW v31 aR v6 v10 ak bA az fi
def Kl (w0 : World) (E R : Value → W) (v1 aR v2 x1 ak v6 v10 : Value) (bA : Value → Value → Value → W) (az : Value) : W :=
 pr (.bL 7) [v1] fun dX =>
 cl PP w0 JA [dX, aR] E fun dw =>
 pr (.di) [dw] fun v91 =>
 pr (.aD .eql) [v91, (vi 0)] fun u9 =>
 br u9 (
 R v2) (
 Kk w0 E R x1 ak dw v1 aR v6 v10 bA az)
def Km (w0 : World) (E R : Value → W) (v1 aR v2 x1 ak v6 v10 : Value) (bA : Value → Value → Value → W) (az pR : Value) : W :=
 br pR (
 R (.bool false)) (
 Kl w0 E R v1 aR v2 x1 ak v6 v10 bA az)
def Kn (w0 : World) (E R : Value → W) (v4 aR v10 v9 az v1 v2 x1 ak v6 : Value) (bA : Value → Value → Value → W) : W :=
 pr (.cS 1) [v4, aR] fun v93 =>
 pr (.ay) [v93] fun ve =>
 pr (.eE) [ve] fun oy =>
 gd oy false (fun k => k v10) fun JG =>
 gd oy false (fun k => pr (.aD .eql) [JG, (vi 0)] k) fun RR =>
 gd oy false (fun k => k RR) fun rq =>
 gd rq true (fun k => k v9) fun JH =>
 gd rq true (fun k => k aR) fun JI =>
 gd rq true (fun k => pr (.cS 1) [JH, JI] k) fun JJ =>
 gd rq true (fun k => pr (.ay) [JJ] k) fun JK =>
 gd rq true (fun k => k az) fun RS =>
 gd rq true (fun k => pr (.aD .neq) [JK, RS] k) fun JL =>
 gd oy false (fun k => pr (.pick) [rq, JL, (.bool false)] k) fun v105 =>
 pr (.pick) [oy, (.bool true), v105] fun pR =>
 Km w0 E R v1 aR v2 x1 ak v6 v10 bA az pR
def EF (w0 : World) (E R : Value → W) (x1 v4 v10 v9 v1 v2 v6 : Value) (bA : Value → Value → Value → W) (aR az ak : Value) : W :=
 pr (.di) [x1] fun v107 =>
 pr (.aD .lss) [ak, v107] fun JM =>
 br JM (
 Kn w0 E R v4 aR v10 v9 az v1 v2 x1 ak v6 bA) (
 J8 w0 E R v2)
def Ko (w0 : World) (E R : Value → W) (x1 v4 v10 v9 v1 v2 v6 : Value) : W :=
 LP (α := Value × Value × Value) (fun k a => EF w0 E R x1 v4 v10 v9 v1 v2 v6 (fun b0 b1 b2 => k (b0, b1, b2)) a.1 a.2.1 a.2.2) ((vi 0), (vi 0), (vi 0))
def Kp (w0 : World) (E R : Value → W) (x1 v4 v10 v9 v1 v2 v6 pS : Value) : W :=
 br pS (
 R (.bool false)) (
 Ko w0 E R x1 v4 v10 v9 v1 v2 v6)
def Kq (w0 : World) (E R : Value → W) (v1 x1 v2 : Value) : W :=
 pr (.bL 7) [v1] fun v3 =>
 cl PP w0 ED [v3] E fun v4 =>
 pr (.bL 7) [v1] fun v5 =>
 cl PP w0 JD [v5] E fun v6 =>
 pr (.bL 7) [v1] fun v7 =>
 cl PP w0 Ju [v7] E fun v8 =>
 pr (.extract 0) [v8] fun v9 =>
 pr (.extract 1) [v8] fun v10 =>
 pr (.aD .neq) [v10, (vi 0)] fun v109 =>
 gd v109 true (fun k => k v10) fun JN =>
 gd v109 true (fun k => pr (.aD .neq) [JN, (vi 12)] k) fun JO =>
 pr (.pick) [v109, JO, (.bool false)] fun pS =>
 Kp w0 E R x1 v4 v10 v9 v1 v2 v6 pS
def Kr (w0 : World) (E R : Value → W) (v2 v1 x1 ru : Value) : W :=
 br ru (
 R v2) (
 Kq w0 E R v1 x1 v2)
def R8 (w0 : World) (E R : Value → W) (x0 x1 : Value) : W :=
 pr (.box 25) [x0] fun v1 =>
 cl PP w0 Ks [] E fun v2 =>
 pr (.bL 7) [v1] fun JP =>
 cl PP w0 J3 [JP] E fun JQ =>
 pr (.eE) [JQ] fun zU =>
 gd zU false (fun k => k x1) fun JR =>
 gd zU false (fun k => pr (.di) [JR] k) fun v117 =>
 gd zU false (fun k => pr (.aD .gtr) [v117, (vi 60)] k) fun JS =>
 pr (.pick) [zU, (.bool true), JS] fun ru =>
 Kr w0 E R v2 v1 x1 ru
theorem aa7 {w0 : World} {h : AH} {Q : CR → AH → Prop} (x0 x1 : Value) (H : R8 w0 (fun v h => Q (.aQ v) h) (fun v h => Q (.ret v) h) x0 x1 h) : WF PP w0 R9 [x0, x1] h Q :=
 fh bF e8 [[jL, oF, nB]] (by kernel_rfl) (Eq.mp (by kernel_rfl) H)
end
end Go.Ve.T
namespace Go.Ve
open Go.RowKit
open Classical
noncomputable section
structure Sub (g h : AH) : Prop where
 nx : g.nx ≤ h.nx
 get : ∀ f x, g.ob.get f = some x → h.ob.get f = some x
theorem Sub.refl (g : AH) : Sub g g := ⟨Nat.le_refl _, fun _ _ h => h⟩
theorem Sub.trans {a b c : AH} (h1 : Sub a b) (h2 : Sub b c) : Sub a c := ⟨Nat.le_trans h1.nx h2.nx, fun f x h => h2.get f x (h1.get f x h)⟩
theorem Sub.rd {g h : AH} (S : Sub g h) {b o : Nat} {v : Value} (hr : g.rd b o = some v) : h.rd b o = some v := by
 unfold AH.rd at hr ⊢
 cases hg : g.ob.get b with
 | none => rw [hg] at hr; cases hr
 | some x => rw [S.get b x hg]; rw [hg] at hr; exact hr
theorem Sub.bE {g h : AH} (S : Sub g h) {b o : Nat} {l : List Value} (hr : g.bE b o l) : h.bE b o l := fun i v hv => S.rd (hr i v hv)
def aM {α β : Type} (R : α → β → Prop) (l : List α) (m : List β) : Prop := l.length = m.length ∧ ∀ (i : Nat) x y, l[i]? = some x → m[i]? = some y → R x y
section
variable {α β : Type} {R R' : α → β → Prop} {l l2 : List α} {m m2 : List β}
theorem aM.nil : aM R [] [] := ⟨rfl, fun i x y h => by simp at h⟩
theorem aM.mono (H : aM R l m) (hm : ∀ x y, R x y → R' x y) : aM R' l m := ⟨H.1, fun i x y h1 h2 => hm x y (H.2 i x y h1 h2)⟩
theorem aM.get (H : aM R l m) {i : Nat} {y : β} (hy : m[i]? = some y) : ∃ x, l[i]? = some x ∧ R x y := by
 have hi : i < m.length := (List.getElem?_eq_some_iff.1 hy).1
 have hl : i < l.length := by rw [H.1]; exact hi
 exact ⟨l[i], List.getElem?_eq_getElem hl, H.2 i _ _ (List.getElem?_eq_getElem hl) hy⟩
theorem aM.append (H : aM R l m) (H2 : aM R l2 m2) : aM R (l ++ l2) (m ++ m2) := by
 refine ⟨by simp [H.1, H2.1], fun i x y hx hy => ?_⟩
 by_cases hi : i < l.length
 · rw [List.getElem?_append_left hi] at hx
   rw [List.getElem?_append_left (by rw [← H.1]; exact hi)] at hy
   exact H.2 i x y hx hy
 · rw [List.getElem?_append_right (by omega)] at hx
   rw [List.getElem?_append_right (by rw [← H.1]; omega), ← H.1] at hy
   exact H2.2 _ x y hx hy
theorem aM.one {x : α} {y : β} (h : R x y) : aM R [x] [y] := ⟨rfl, fun i a b ha hb => by
 cases i with
 | zero => simp at ha hb; subst ha; subst hb; exact h
 | succ i => simp at ha⟩
theorem aM.push {x : α} {y : β} (H : aM R l m) (h : R x y) : aM R (l ++ [x]) (m ++ [y]) := H.append (.one h)
theorem aM.set {x : α} {y : β} (H : aM R l m) (h : R x y) (i : Nat) : aM R (l.set i x) (m.set i y) := by
 refine ⟨by simp [H.1], fun j a b ha hb => ?_⟩
 rw [List.getElem?_set] at ha hb
 by_cases e : i = j
 · subst e
   rw [if_pos rfl] at ha hb
   split at ha
   · cases ha
     split at hb
     · cases hb; exact h
     · cases hb
   · cases ha
 · rw [if_neg e] at ha hb; exact H.2 j a b ha hb
theorem aM.take (H : aM R l m) (n : Nat) : aM R (l.take n) (m.take n) := ⟨by simp [H.1], fun i x y hx hy => by
 rw [List.getElem?_take] at hx hy
 split at hx
 · rename_i hi; rw [if_pos hi] at hy; exact H.2 i x y hx hy
 · cases hx⟩
theorem aM.drop (H : aM R l m) (n : Nat) : aM R (l.drop n) (m.drop n) := ⟨by simp [H.1], fun i x y hx hy => by
 rw [List.getElem?_drop] at hx hy; exact H.2 _ x y hx hy⟩
theorem aM.Xy {x : α} {y : β} (h : R x y) : ∀ n, aM R (List.replicate n x) (List.replicate n y)
 | 0 => .nil
 | n + 1 => ⟨by simp, fun i a b ha hb => by
  have h1 := List.mem_of_getElem? ha
  have h2 := List.mem_of_getElem? hb
  rw [(List.mem_replicate.1 h1).2, (List.mem_replicate.1 h2).2]; exact h⟩
end
def ix {α : Type} (l : List α) : Int → Option α
 | .ofNat n => l[n]?
 | .negSucc _ => none
theorem iy {α : Type} (l : List α) (n : Nat) : ix l (n : Int) = l[n]? := rfl
theorem Hu {α : Type} {l : List α} {n : Int} {x : α} (h : ix l n = some x) : ∃ i : Nat, n = i ∧ i < l.length ∧ l[i]? = some x := by
 cases n with
 | ofNat i => exact ⟨i, rfl, (List.getElem?_eq_some_iff.1 h).1, h⟩
 | negSucc i => cases h
theorem bind_some {α β : Type} {o : Option α} {f : α → Option β} {r : β} (h : o.bind f = some r) : ∃ x, o = some x ∧ f x = some r := by
 cases o with
 | none => cases h
 | some x => exact ⟨x, rfl, h⟩
theorem aV {α : Type} {c : Bool} {a b r : α} (hc : c = true) (h : (bif c then a else b) = r) : a = r := by subst hc; exact h
theorem aX {α : Type} {c : Bool} {a b r : α} (hc : c = false) (h : (bif c then a else b) = r) : b = r := by subst hc; exact h
def gu {α : Type} (c : Bool) (k : Option α) : Option α := bif c then k else none
theorem qQ {α : Type} {c : Bool} {k : Option α} {r : α} (h : gu c k = some r) : c = true ∧ k = some r := by
 cases c with
 | false => cases h
 | true => exact ⟨rfl, h⟩
abbrev gi (α : Type) := AH → List Value → α → Prop
def wB {α : Type} (rep : gi α) : Prop := ∀ g g' vs x, Sub g g' → rep g vs x → rep g' vs x
def OE (sz n cap : Nat) : Prop := n < aT ∧ ((n ≤ cap ∧ cap < aT) ∨ cap = aT + sz)
inductive gG (g : AH) (sz : Nat) : Value → List (List Value) → Prop where
 | nil : gG g sz bN []
 | mk (b o n cap : Nat) (ls : List (List Value)) (hn : n = ls.length) (hc : OE sz n cap) (hs : ∀ x ∈ ls, x.length = sz) (hr : g.bE b o ls.flatten) : gG g sz (dL b o n cap) ls
theorem gG.mono {g g' : AH} {sz : Nat} {v : Value} {ls : List (List Value)} (S : Sub g g') (H : gG g sz v ls) : gG g' sz v ls := by
 cases H with
 | nil => exact .nil
 | mk b o n cap ls hn hc hs hr => exact .mk b o n cap ls hn hc hs (S.bE hr)
def ae {α : Type} (rep : gi α) (sz : Nat) (g : AH) (v : Value) (l : List α) : Prop := ∃ ls, gG g sz v ls ∧ aM (rep g) ls l
theorem ae.mono {α : Type} {rep : gi α} {sz : Nat} {g g' : AH} {v : Value} {l : List α} (H : ae rep sz g v l) (hm : wB rep) (S : Sub g g') : ae rep sz g' v l := by
 obtain ⟨ls, h1, h2⟩ := H
 exact ⟨ls, h1.mono S, h2.mono fun x y h => hm _ _ _ _ S h⟩
theorem ae.nil {α : Type} {rep : gi α} {sz : Nat} {g : AH} : ae rep sz g bN [] := ⟨[], .nil, .nil⟩
theorem gG.one {g : AH} {sz : Nat} {v : Value} {ls : List (List Value)} (H : gG g sz v ls) : eH v = true := by cases H <;> rfl
theorem ae.one {α : Type} {rep : gi α} {sz : Nat} {g : AH} {v : Value} {l : List α} (H : ae rep sz g v l) : eH v = true := by obtain ⟨ls, h1, _⟩ := H; exact h1.one
def rI (k : IntKind) : gi Int := fun _ vs x => vs = [.int k x]
def rB : gi Bool := fun _ vs x => vs = [.bool x]
def rS : gi ByteArray := fun _ vs x => vs = [.string x]
def rL {α : Type} (rep : gi α) (sz : Nat) : gi (List α) := fun g vs x => ∃ v, vs = [v] ∧ ae rep sz g v x
theorem fG (k : IntKind) : wB (rI k) := fun _ _ _ _ _ h => h
theorem ub : wB rB := fun _ _ _ _ _ h => h
theorem pb {sz : Nat} : ∀ {l : List (List Value)}, (∀ x ∈ l, x.length = sz) → l.flatten.length = l.length * sz
 | [], _ => by simp
 | x :: l, hs => by
  rw [List.flatten_cons, List.length_append, hs x List.mem_cons_self, pb fun y hy => hs y (List.mem_cons_of_mem _ hy), List.length_cons, Nat.add_mul]; omega
theorem OF {sz : Nat} : ∀ {l : List (List Value)} (n : Nat), (∀ x ∈ l, x.length = sz) → (l.drop n).flatten = l.flatten.drop (n * sz)
 | [], n, _ => by simp
 | x :: l, 0, _ => by simp
 | x :: l, n + 1, hs => by
  rw [List.drop_succ_cons, List.flatten_cons, OF n fun y hy => hs y (List.mem_cons_of_mem _ hy), List.drop_append, List.drop_of_length_le (l := x) (by rw [hs x List.mem_cons_self, Nat.add_mul]; omega), List.nil_append, hs x List.mem_cons_self]
  congr 1
  rw [Nat.add_mul]; omega
theorem OG {sz : Nat} : ∀ {l : List (List Value)} (n : Nat), (∀ x ∈ l, x.length = sz) → (l.take n).flatten = l.flatten.take (n * sz)
 | [], n, _ => by simp
 | x :: l, 0, _ => by simp
 | x :: l, n + 1, hs => by
  rw [List.take_succ_cons, List.flatten_cons, List.flatten_cons, OG n fun y hy => hs y (List.mem_cons_of_mem _ hy), List.take_append, hs x List.mem_cons_self, List.take_of_length_le (show x.length ≤ (n + 1) * sz by rw [hs x List.mem_cons_self, Nat.add_mul]; omega)]
  congr 2
  rw [Nat.add_mul]; omega
theorem Xz {sz : Nat} : ∀ {l : List (List Value)} {i : Nat} {y : List Value}, (∀ x ∈ l, x.length = sz) → y.length = sz → i < l.length → ∀ j, (l.set i y).flatten[j]? = if i * sz ≤ j ∧ j < i * sz + sz then y[j - i * sz]? else l.flatten[j]?
 | [], i, y, _, _, h, j => by simp at h
 | x :: l, 0, y, hs, hy, _, j => by
  have hx := hs x List.mem_cons_self
  rw [List.set_cons_zero, List.flatten_cons, List.flatten_cons, Nat.zero_mul, Nat.zero_add]
  by_cases hj : j < sz
  · rw [if_pos ⟨Nat.zero_le _, hj⟩, List.getElem?_append_left (by omega)]; rfl
  · rw [if_neg (fun h => hj h.2), List.getElem?_append_right (by omega), List.getElem?_append_right (by omega), hx, hy]
 | x :: l, i + 1, y, hs, hy, hi, j => by
  have hx := hs x List.mem_cons_self
  rw [List.set_cons_succ, List.flatten_cons, List.flatten_cons]
  have e : (i + 1) * sz = i * sz + sz := by rw [Nat.add_mul]; omega
  by_cases hj : j < sz
  · rw [List.getElem?_append_left (by omega), if_neg (by omega), List.getElem?_append_left (by omega)]
  · rw [List.getElem?_append_right (by omega), List.getElem?_append_right (by omega), Xz (fun z hz => hs z (List.mem_cons_of_mem _ hz)) hy (by simpa using hi), hx, e]
    by_cases h2 : i * sz ≤ j - sz ∧ j - sz < i * sz + sz
    · rw [if_pos h2, if_pos (by omega)]; congr 1; omega
    · rw [if_neg h2, if_neg (by omega)]
theorem OH {h : AH} {b o : Nat} {l : List Value} (n : Nat) (H : h.bE b o l) : h.bE b o (l.take n) := fun i v hv => H i v (by
 rw [List.getElem?_take] at hv; split at hv
 · exact hv
 · cases hv)
theorem OI {h : AH} {b o : Nat} {l : List Value} (n : Nat) (H : h.bE b o l) : h.bE b (o + n) (l.drop n) := fun i v hv => by
 rw [List.getElem?_drop] at hv
 have := H (n + i) v hv
 rwa [show o + n + i = o + (n + i) by omega]
inductive dV (h : AH) (ty : TypeId) (sz : Nat) : Value → List (List Value) → Prop where
 | nil : dV h ty sz bN []
 | un (b o n lo hi : Nat) (c : NT Value) (ls : List (List Value)) (hn : n = ls.length) (hb : n < aT) (hg : h.ob.get b = some (.cells lo hi ty true c)) (h1 : lo ≤ o) (h2 : o + n * sz ≤ hi) (hr : h.bE b o ls.flatten) (hs : ∀ x ∈ ls, x.length = sz) : dV h ty sz (dL b o n (aT + sz)) ls
 | kn (b o n cap lo hi : Nat) (cf : TypeId) (c : NT Value) (ls : List (List Value)) (hn : n = ls.length) (hb : n ≤ cap) (hc : cap < aT) (hg : h.ob.get b = some (.cells lo hi cf true c)) (h1 : lo ≤ o) (h2 : o + cap * sz ≤ hi) (hr : h.bE b o ls.flatten) (hs : ∀ x ∈ ls, x.length = sz) : dV h ty sz (dL b o n cap) ls
def ec : Value → List Nat
 | .slice (some a) _ _ => [a.block]
 | _ => []
theorem dV.one {h : AH} {ty : TypeId} {sz : Nat} {v : Value} {ls : List (List Value)} (H : dV h ty sz v ls) : eH v = true := by cases H <;> rfl
theorem dV.read {h : AH} {ty : TypeId} {sz : Nat} {v : Value} {ls : List (List Value)} (H : dV h ty sz v ls) : gG h sz v ls := by
 cases H with
 | nil => exact .nil
 | un b o n lo hi c ls hn hb hg h1 h2 hr hs => exact .mk b o n _ ls hn ⟨hb, .inr rfl⟩ hs hr
 | kn b o n cap lo hi cf c ls hn hb hc hg h1 h2 hr hs => exact .mk b o n cap ls hn ⟨by omega, .inl ⟨hb, hc⟩⟩ hs hr
theorem wC {h h' : AH} {b o : Nat} {l : List Value} (e : h'.ob.get b = h.ob.get b) (H : h.bE b o l) : h'.bE b o l := fun i v hv => by
 have := H i v hv
 unfold AH.rd at this ⊢
 rw [e]; exact this
theorem dV.Ck {h h' : AH} {ty : TypeId} {sz : Nat} {v : Value} {ls : List (List Value)} (H : dV h ty sz v ls) (e : ∀ b ∈ ec v, h'.ob.get b = h.ob.get b) : dV h' ty sz v ls := by
 cases H with
 | nil => exact .nil
 | un b o n lo hi c ls hn hb hg h1 h2 hr hs =>
  have e := e b (by simp [ec])
  exact .un b o n lo hi c ls hn hb (e.trans hg) h1 h2 (wC e hr) hs
 | kn b o n cap lo hi cf c ls hn hb hc hg h1 h2 hr hs =>
  have e := e b (by simp [ec])
  exact .kn b o n cap lo hi cf c ls hn hb hc (e.trans hg) h1 h2 (wC e hr) hs
inductive Ob where
 | bx (b : Nat) (l : List Value)
 | sl (ty : TypeId) (sz : Nat) (v : Value) (ls : List (List Value))
 | lp (n : Nat) (lo : LO) (st : LoopState) (pd : Option Code)
 | ds (d : List Nat)
 | mp (b : Nat) (es : List (Value × Value × Nat)) (cl : Nat)
 | raw (b : Nat) (a : AO)
def Ob.bz : Ob → List Nat
 | .bx b _ => [b]
 | .sl _ _ v _ => ec v
 | .lp n _ _ _ => [n]
 | .ds d => d
 | .mp b _ _ => [b]
 | .raw b _ => [b]
def Ob.ok (h : AH) : Ob → Prop
 | .bx b l => h.bE b 0 l ∧ h.can b 0 l.length
 | .sl ty sz v ls => dV h ty sz v ls
 | .lp n lo st pd => h.ob.get n = some (lo st pd)
 | .ds d => ∀ r ∈ d, h.ob.get r = some (.defs false)
 | .mp b es cl => h.ob.get b = some (.map es cl)
 | .raw b a => h.ob.get b = some a
theorem ag6 {h h' : AH} {b o n : Nat} (e : h'.ob.get b = h.ob.get b) (H : h.can b o n) : h'.can b o n := by
 obtain ⟨lo, hi, ty, c, h1, h2, h3⟩ := H
 exact ⟨lo, hi, ty, c, e.trans h1, h2, h3⟩
theorem Ob.Ck {h h' : AH} {o : Ob} (H : o.ok h) (e : ∀ b ∈ o.bz, h'.ob.get b = h.ob.get b) : o.ok h' := by
 cases o with
 | bx b l =>
  have e := e b (by simp [Ob.bz])
  exact ⟨wC e H.1, ag6 e H.2⟩
 | sl ty sz v ls => exact dV.Ck H e
 | lp n lo st pd => exact (e n (by simp [Ob.bz])).trans H
 | ds d => exact fun r hr => (e r hr).trans (H r hr)
 | mp b es cl => exact (e b (by simp [Ob.bz])).trans H
 | raw b a => exact (e b (by simp [Ob.bz])).trans H
structure Cx where
 g : AH
 h : AH
 C : List Nat
structure Sep (c : Cx) (g h : AH) (Γ : List Ob) : Prop where
 bQ : Sub c.g g
 sub : Sub g h
 ok : h.Ok
 nx : c.h.nx ≤ h.nx
 old : ∀ f, f < c.h.nx → f ∉ c.C → h.ob.get f = c.h.ob.get f ∧ (c.g.ob.get f = none → g.ob.get f = none)
 dN : ∀ o ∈ Γ, o.ok h
 nd : (Γ.flatMap Ob.bz).Nodup
 own : ∀ b ∈ Γ.flatMap Ob.bz, b < h.nx ∧ g.ob.get b = none ∧ (c.h.nx ≤ b ∨ b ∈ c.C)
section
variable {c : Cx} {g h h' g' : AH} {Γ Γ' : List Ob} {o : Ob}
theorem Sep.start (S : Sub g h) (ok : h.Ok) : Sep ⟨g, h, []⟩ g h [] := ⟨.refl _, S, ok, Nat.le_refl _, fun f _ _ => ⟨rfl, id⟩, fun o ho => by simp at ho, by simp, fun b hb => by simp at hb⟩
theorem Sep.perm (S : Sep c g h Γ) (p : Γ'.Perm Γ) : Sep c g h Γ' :=
 have pf : (Γ'.flatMap Ob.bz).Perm (Γ.flatMap Ob.bz) := p.flatMap_right _
 ⟨S.bQ, S.sub, S.ok, S.nx, S.old, fun o ho => S.dN o (p.mem_iff.1 ho), pf.nodup_iff.2 S.nd, fun b hb => S.own b (pf.mem_iff.1 hb)⟩
theorem XA {α : Type} : ∀ {l : List α} {i : Nat} {x : α}, l[i]? = some x → (x :: l.eraseIdx i).Perm l
 | [], i, x, h => by simp at h
 | y :: l, 0, x, h => by simp at h; subst h; exact .refl _
 | y :: l, i + 1, x, h => by
  have := XA (l := l) (i := i) (x := x) (by simpa using h)
  exact (List.Perm.swap y x _).trans (this.cons y)
theorem Sep.front (S : Sep c g h Γ) (i : Nat) (hi : Γ[i]? = some o) (e : Γ.eraseIdx i = Γ') : Sep c g h (o :: Γ') := e ▸ S.perm (XA hi)
theorem Sep.drop (S : Sep c g h (o :: Γ)) : Sep c g h Γ :=
 ⟨S.bQ, S.sub, S.ok, S.nx, S.old, fun x hx => S.dN x (List.mem_cons_of_mem _ hx), by have := S.nd; rw [List.flatMap_cons] at this; exact (List.nodup_append.1 this).2.1, fun b hb => S.own b (by rw [List.flatMap_cons]; exact List.mem_append_right _ hb)⟩
theorem Sep.bJ (S : Sep c g h Γ) : Sep c g h [] :=
 ⟨S.bQ, S.sub, S.ok, S.nx, S.old, fun x hx => by simp at hx, by simp, fun b hb => by simp at hb⟩
theorem Sep.apart (S : Sep c g h (o :: Γ)) {b : Nat} (hb : b ∈ o.bz) : b ∉ Γ.flatMap Ob.bz := fun cm => by
 have := S.nd
 rw [List.flatMap_cons] at this
 exact (List.nodup_append.1 this).2.2 b hb b cm rfl
theorem Sep.change (S : Sep c g h (o :: Γ)) (o' : Ob) (od : h'.Ok) (qg : h.nx ≤ h'.nx) (cj : ∀ f, f < h.nx → f ∉ o.bz → h'.ob.get f = h.ob.get f) (ho : o'.ok h') (nn : o'.bz.Nodup)
 (hb : ∀ b ∈ o'.bz, b < h'.nx ∧ (h.nx ≤ b ∨ b ∈ o.bz)) : Sep c g h' (o' :: Γ) := by
 have own := fun b hb => S.own b (show b ∈ (o :: Γ).flatMap Ob.bz from hb)
 have OJ : ∀ b ∈ o.bz, b < h.nx ∧ g.ob.get b = none ∧ (c.h.nx ≤ b ∨ b ∈ c.C) := fun b hb => own b (by rw [List.flatMap_cons]; exact List.mem_append_left _ hb)
 have ag7 : ∀ f, h.nx ≤ f → g.ob.get f = none := fun f hf => by
  cases hg : g.ob.get f with
  | none => rfl
  | some x => have := S.sub.get f x hg; rw [S.ok f hf] at this; cases this
 refine ⟨S.bQ, ⟨Nat.le_trans S.sub.nx qg, fun f x hx => ?_⟩, od, Nat.le_trans S.nx qg, fun f hf hc => ?_, fun x hx => ?_, ?_, fun b cm => ?_⟩
 · have h1 := S.sub.get f x hx
   have bC : f < h.nx := AH.lt_of_get S.ok h1
   rw [cj f bC (fun hm => by rw [(OJ f hm).2.1] at hx; cases hx)]; exact h1
 · obtain ⟨h1, h2⟩ := S.old f hf hc
   refine ⟨?_, h2⟩
   rw [cj f (Nat.lt_of_lt_of_le hf S.nx) (fun hm => by exact (OJ f hm).2.2.elim (fun h3 => by omega) hc)]; exact h1
 · rcases List.mem_cons.1 hx with rfl | hx
   · exact ho
   · refine Ob.Ck (S.dN x (List.mem_cons_of_mem _ hx)) fun b kg => ?_
     have hm : b ∈ Γ.flatMap Ob.bz := List.mem_flatMap.2 ⟨x, hx, kg⟩
     have bC := (own b (by rw [List.flatMap_cons]; exact List.mem_append_right _ hm)).1
     exact cj b bC fun vE => S.apart vE hm
 · rw [List.flatMap_cons]
   refine List.nodup_append.2 ⟨nn, S.drop.nd, fun a ha b kg e => ?_⟩
   subst e
   rcases (hb a ha).2 with h1 | h1
   · have := (S.drop.own a kg).1; omega
   · exact S.apart h1 kg
 · rw [List.flatMap_cons] at cm
   rcases List.mem_append.1 cm with h1 | h1
   · obtain ⟨h2, h3⟩ := hb b h1
     refine ⟨h2, ?_⟩
     rcases h3 with h3 | h3
     · exact ⟨ag7 b h3, .inl (Nat.le_trans S.nx h3)⟩
     · exact (OJ b h3).2
   · obtain ⟨h2, h3⟩ := S.drop.own b h1
     exact ⟨by omega, h3⟩
theorem Sep.add (S : Sep c g h Γ) (o' : Ob) (od : h'.Ok) (qg : h.nx ≤ h'.nx) (cj : ∀ f, f < h.nx → h'.ob.get f = h.ob.get f) (ho : o'.ok h') (nn : o'.bz.Nodup) (hb : ∀ b ∈ o'.bz, b < h'.nx ∧ h.nx ≤ b) : Sep c g h' (o' :: Γ) := by
 have S0 : Sep c g h (.sl 0 0 bN [] :: Γ) := ⟨S.bQ, S.sub, S.ok, S.nx, S.old, fun x hx => by
  rcases List.mem_cons.1 hx with rfl | hx
  · exact dV.nil
  · exact S.dN x hx, by rw [List.flatMap_cons]; exact S.nd, fun b hb => S.own b (by rw [List.flatMap_cons] at hb; exact hb)⟩
 exact S0.change o' od qg (fun f hf _ => cj f hf) ho nn fun b cm => ⟨(hb b cm).1, .inl (hb b cm).2⟩
theorem Sep.OK (S : Sep c g h Γ) (ty : TypeId) (sz : Nat) : Sep c g h (.sl ty sz bN [] :: Γ) := S.add _ S.ok (Nat.le_refl _) (fun _ _ => rfl) dV.nil (by simp [Ob.bz, ec]) (fun b hb => by simp [Ob.bz, ec] at hb)
theorem Sep.cj (S : Sep c g h Γ) (K : cU h h') (od : h'.Ok) : Sep c g h' Γ :=
 (Sep.add S (.sl 0 0 bN []) od K.nx K.get dV.nil (by simp [Ob.bz, ec]) (fun b hb => by simp [Ob.bz, ec] at hb)).drop
theorem Sep.call {Γ1 : List Ob} (S : Sep c g h Γ) (S' : Sep ⟨g, h, []⟩ g' h' Γ1) : Sep c g' h' (Γ1 ++ Γ) := by
 have XB : ∀ b ∈ Γ1.flatMap Ob.bz, b < h'.nx ∧ g'.ob.get b = none ∧ h.nx ≤ b := fun b hb => by
  obtain ⟨h1, h2, h3⟩ := S'.own b hb
  refine ⟨h1, h2, ?_⟩
  rcases h3 with h3 | h3
  · exact h3
  · simp at h3
 have OL : ∀ f, f < h.nx → h'.ob.get f = h.ob.get f ∧ (g.ob.get f = none → g'.ob.get f = none) := fun f hf => S'.old f hf (by simp)
 refine ⟨S.bQ.trans S'.bQ, S'.sub, S'.ok, Nat.le_trans S.nx S'.nx, fun f hf hc => ?_, fun x hx => ?_, ?_, fun b hb => ?_⟩
 · obtain ⟨h1, h2⟩ := S.old f hf hc
   obtain ⟨h3, h4⟩ := OL f (Nat.lt_of_lt_of_le hf S.nx)
   exact ⟨h3.trans h1, fun hn => h4 (h2 hn)⟩
 · rcases List.mem_append.1 hx with hx | hx
   · exact S'.dN x hx
   · refine Ob.Ck (S.dN x hx) fun b hb => ?_
     exact (OL b (S.own b (List.mem_flatMap.2 ⟨x, hx, hb⟩)).1).1
 · rw [List.flatMap_append]
   refine List.nodup_append.2 ⟨S'.nd, S.nd, fun a ha b hb e => ?_⟩
   subst e
   have := (XB a ha).2.2
   have := (S.own a hb).1
   omega
 · rw [List.flatMap_append] at hb
   rcases List.mem_append.1 hb with hb | hb
   · obtain ⟨h1, h2, h3⟩ := XB b hb
     exact ⟨h1, h2, .inl (Nat.le_trans S.nx h3)⟩
   · obtain ⟨h1, h2, h3⟩ := S.own b hb
     exact ⟨Nat.lt_of_lt_of_le h1 S'.nx, (OL b h1).2 h2, h3⟩
def AH.Cl (g h : AH) (b : Nat) : AH := ⟨h.nx, g.ob.set b (h.ob.get b)⟩
theorem AH.Cm (g h : AH) (b f : Nat) : (g.Cl h b).ob.get f = if f = b then h.ob.get b else g.ob.get f := by
 show (g.ob.set b _).get f = _
 rw [NT.cZ]
theorem Sep.freeze (S : Sep c g h (o :: Γ)) {b : Nat} (hb : o.bz = [b]) : Sub g (g.Cl h b) ∧ Sep c (g.Cl h b) h Γ ∧ (g.Cl h b).ob.get b = h.ob.get b := by
 have XC : b ∈ o.bz := by rw [hb]; simp
 obtain ⟨h1, h2, h3⟩ := S.own b (by rw [List.flatMap_cons]; exact List.mem_append_left _ XC)
 have sg : Sub g (g.Cl h b) := ⟨S.sub.nx, fun f x hx => by
  rw [AH.Cm]
  split
  · rename_i e; subst e; rw [h2] at hx; cases hx
  · exact hx⟩
 refine ⟨sg, ⟨S.bQ.trans sg, ⟨Nat.le_refl _, fun f x hx => ?_⟩, S.ok, S.nx, fun f hf hc => ?_, S.drop.dN, S.drop.nd, fun b' cm => ?_⟩, by rw [AH.Cm, if_pos rfl]⟩
 · rw [AH.Cm] at hx
   split at hx
   · rename_i e; subst e; exact hx
   · exact S.sub.get f x hx
 · obtain ⟨h4, h5⟩ := S.old f hf hc
   refine ⟨h4, fun hn => ?_⟩
   rw [AH.Cm, if_neg]
   · exact h5 hn
   · rintro rfl
     rcases h3 with h3 | h3
     · omega
     · exact hc h3
 · obtain ⟨h4, h5, h6⟩ := S.drop.own b' cm
   refine ⟨h4, ?_, h6⟩
   rw [AH.Cm, if_neg]
   · exact h5
   · rintro rfl; exact S.apart XC cm
theorem Sep.yR {b : Nat} {l : List Value} (S : Sep c g h (.bx b l :: Γ)) : ∃ g', Sub g g' ∧ Sep c g' h Γ ∧ g'.bE b 0 l := by
 obtain ⟨h1, h2, h3⟩ := S.freeze (b := b) rfl
 exact ⟨_, h1, h2, wC h3 (S.dN _ List.mem_cons_self).1⟩
theorem Sep.ag8 {ty : TypeId} {sz : Nat} {v : Value} {ls : List (List Value)} (S : Sep c g h (.sl ty sz v ls :: Γ)) : ∃ g', Sub g g' ∧ Sep c g' h Γ ∧ gG g' sz v ls := by
 have H : dV h ty sz v ls := S.dN _ List.mem_cons_self
 have R := H.read
 cases R with
 | nil => exact ⟨g, .refl _, S.drop, .nil⟩
 | mk b o n cap ls hn hc hs hr =>
  obtain ⟨h1, h2, h3⟩ := S.freeze (b := b) rfl
  exact ⟨_, h1, h2, .mk b o n cap ls hn hc hs (wC h3 hr)⟩
theorem Sep.fz {α : Type} {rep : gi α} {ty : TypeId} {sz : Nat} {v : Value} {ls : List (List Value)} {l : List α} (S : Sep c g h (.sl ty sz v ls :: Γ)) (A : aM (rep g) ls l) (hm : wB rep) : ∃ g', Sub g g' ∧ Sep c g' h Γ ∧ ae rep sz g' v l := by
 obtain ⟨g', h1, h2, h3⟩ := S.ag8
 exact ⟨g', h1, h2, ls, h3, A.mono fun x y Oe => hm _ _ _ _ h1 Oe⟩
theorem Sep.back (S : Sep c g h Γ) (S' : Sep c g' h' Γ') (hs : Sub g g') : Sep c g h' Γ' :=
 ⟨S.bQ, hs.trans S'.sub, S'.ok, S'.nx, fun f hf hc => ⟨(S'.old f hf hc).1, fun hn => (S.old f hf hc).2 hn⟩, S'.dN, S'.nd, fun b hb => by
  obtain ⟨h1, h2, h3⟩ := S'.own b hb
  refine ⟨h1, ?_, h3⟩
  cases hg : g.ob.get b with
  | none => rfl
  | some x => rw [hs.get b x hg] at h2; cases h2⟩
end
end
end Go.Ve
namespace Go.Ve
open Go.RowKit
open Classical
noncomputable section
theorem bK {c : Bool} {A B : W} {h : AH} (ht : c = true → A h) (hf : c = false → B h) : br (.bool c) A B h := by
 cases c with
 | true => exact ht rfl
 | false => exact hf rfl
theorem aH {c want : Bool} {A : (Value → W) → W} {K : Value → W} {h : AH} (e : c = want) (H : A K h) : gd (.bool c) want A K h := by
 subst e; unfold gd; cases c <;> exact H
theorem aI {c want : Bool} {A : (Value → W) → W} {K : Value → W} {h : AH} (e : c ≠ want) (H : K undef h) : gd (.bool c) want A K h := by
 unfold gd; cases c <;> cases want <;> first | exact absurd rfl e | exact H
section
variable {c : Cx} {g h : AH} {Γ : List Ob} {R : Value → AH → Prop}
theorem Sep.gr {b o : Nat} {v : Value} (S : Sep c g h Γ) (hr : g.rd b o = some v) (K : R v h) : WP .ay [al b o] h R := (Gk (S.sub.rd hr)).2 K
theorem Sep.ua {b o n : Nat} {l : List Value} (S : Sep c g h Γ) (hr : g.bE b o l) (hn : l.length = n) (h0 : 0 < n) (K : R (.agg ⟨l⟩) h) : WP (.bL n) [al b o] h R := (Gl (S.sub.bE hr) hn h0).2 K
theorem XO {ty : TypeId} {l : List Value} : Ob.ok (h.new ty l) (.bx h.nx l) := ⟨AH.Ge h ty l, AH.MX h ty l (by omega)⟩
theorem Sep.alloc {ty : TypeId} {l : List Value} (S : Sep c g h Γ) (ha : cP l = true) (K : ∀ b h', Sep c g h' (.bx b l :: Γ) → R (al b 0) h') : WP (.alloc ty l) [] h R :=
 (Bz ha).2 (K _ _ (S.add _ (AH.sd S.ok _ _) (Nat.le_succ _) (cU.new h ty l).get XO (by simp [Ob.bz]) (fun b hb => by simp [Ob.bz] at hb; subst hb; exact ⟨Nat.lt_succ_self _, Nat.le_refl _⟩)))
theorem Sep.box {ty : TypeId} {v : Value} (l : List Value) (S : Sep c g h Γ) (hl : cellsOf v = l) (ha : cP l = true) (K : ∀ b h', Sep c g h' (.bx b l :: Γ) → R (al b 0) h') : WP (.box ty) [v] h R := by
 subst hl
 exact (Gj ha).2 (K _ _ (S.add _ (AH.sd S.ok _ _) (Nat.le_succ _) (cU.new h ty _).get XO (by simp [Ob.bz]) (fun b hb => by simp [Ob.bz] at hb; subst hb; exact ⟨Nat.lt_succ_self _, Nat.le_refl _⟩)))
theorem Sep.bj {b o : Nat} {l : List Value} {v : Value} (S : Sep c g h Γ) (i : Nat) (hi : Γ[i]? = some (.bx b l)) (hv : l[o]? = some v) (K : R v h) : WP .ay [al b o] h R := by
 have := (S.dN _ (List.mem_of_getElem? hi)).1 o v hv
 rw [Nat.zero_add] at this
 exact (Gk this).2 K
theorem Sep.c8 {b o n : Nat} {l : List Value} (m : List Value) (S : Sep c g h Γ) (i : Nat) (hi : Γ[i]? = some (.bx b l)) (hm : (l.drop o).take n = m) (hn : m.length = n) (h0 : 0 < n) (K : R (.agg ⟨m⟩) h) : WP (.bL n) [al b o] h R := by
 have := OH n (OI o (S.dN _ (List.mem_of_getElem? hi)).1)
 rw [Nat.zero_add, hm] at this
 exact (Gl this hn h0).2 K
theorem XP {l m : List Value} {o j : Nat} (hl : o + m.length ≤ l.length) : (kp l o m)[j]? = if o ≤ j ∧ j < o + m.length then m[j - o]? else l[j]? := by
 unfold kp
 by_cases h1 : j < o
 · rw [if_neg (by omega), List.append_assoc, List.getElem?_append_left (by rw [List.length_take]; omega), List.getElem?_take, if_pos h1]
 · rw [List.append_assoc, List.getElem?_append_right (by rw [List.length_take]; omega), List.length_take, Nat.min_eq_left (by omega)]
   by_cases h2 : j < o + m.length
   · rw [if_pos (by omega), List.getElem?_append_left (by omega)]
   · rw [if_neg (by omega), List.getElem?_append_right (by omega), List.getElem?_drop]; congr 1; omega
theorem OT {l m : List Value} {o : Nat} (hl : o + m.length ≤ l.length) : (kp l o m).length = l.length := by unfold kp; simp; omega
theorem Sep.cv {b o n : Nat} {l : List Value} {v : Value} (m l' : List Value) (S : Sep c g h (.bx b l :: Γ)) (hm : cellsOf v = m) (hn : m.length = n) (ha : cP m = true) (ho : o + n ≤ l.length) (fR : kp l o m = l') (K : ∀ h', Sep c g h' (.bx b l' :: Γ) → R undef h') : WP (.store n) [al b o, v] h R := by
 subst hm; subst fR; subst hn
 have H : Ob.ok h (.bx b l) := S.dN _ List.mem_cons_self
 obtain ⟨h1, lo, hi, ty, cc, h2, h3, h4⟩ := H
 have hc : h.can b o (cellsOf v).length := ⟨lo, hi, ty, cc, h2, by omega, by omega⟩
 refine (Gm hc rfl ha).2 (K _ ?_)
 have bC := AH.lt_of_get S.ok h2
 refine S.change _ (AH.se S.ok _ _ _) (by rw [AH.lh]; exact Nat.le_refl _) (fun f _ hf => AH.tK h (by simp [Ob.bz] at hf; exact hf)) ⟨fun i u hu => ?_, ?_⟩ (by simp [Ob.bz]) (fun b' cm => by simp [Ob.bz] at cm; subst cm; exact ⟨by rw [AH.lh]; exact bC, .inr (by simp [Ob.bz])⟩)
 · rw [XP ho] at hu
   rw [Nat.zero_add, AH.tL hc (Nat.le_refl _)]
   split at hu
   · rename_i hh; rw [if_pos ⟨rfl, hh⟩]; exact hu
   · rename_i hh; rw [if_neg (fun e => hh e.2)]; have := h1 i u hu; rwa [Nat.zero_add] at this
 · rw [OT ho]; exact AH.Gd ⟨lo, hi, ty, cc, h2, h3, h4⟩
def pc (v : Value) (sz i b o : Nat) : Prop := ∃ o0 n cap, v = dL b o0 n cap ∧ o = o0 + i * sz
theorem gG.len {h2 : AH} {sz : Nat} {v : Value} {ls : List (List Value)} (H : gG h2 sz v ls) (K : R (vi (ls.length : Int)) h) : WP .di [v] h R := by
 cases H with
 | nil => exact aeT.2 K
 | mk b o n cap ls hn hc hs hr => subst hn; exact M8.2 K
theorem gG.idx {h2 : AH} {sz : Nat} {v : Value} {ls : List (List Value)} (H : gG h2 sz v ls) {i : Nat} {x : List Value} (hx : ls[i]? = some x) :
 ∃ b o, pc v sz i b o ∧ h2.bE b o x ∧ ∀ (kd : IntKind) (h : AH) (R : Value → AH → Prop), R (al b o) h → WP (.cS sz) [v, .int kd (i : Int)] h R := by
 have hi : i < ls.length := (List.getElem?_eq_some_iff.1 hx).1
 cases H with
 | nil => simp at hi
 | mk b o n cap ls hn hc hs hr =>
  subst hn
  refine ⟨b, o + i * sz, ⟨o, _, cap, rfl, rfl⟩, fun j u hu => ?_, fun kd h R K => (aeP hi).2 K⟩
  have := hr (i * sz + j) u (NW hs hx j u hu)
  rwa [show o + (i * sz + j) = o + i * sz + j by omega] at this
theorem ae.len {α : Type} {rep : gi α} {g2 : AH} {sz : Nat} {v : Value} {l : List α} (F : ae rep sz g2 v l) (K : R (vi (l.length : Int)) h) : WP .di [v] h R := by
 obtain ⟨ls, h1, h2⟩ := F
 exact h1.len (by rw [h2.1]; exact K)
theorem ae.idx {α : Type} {rep : gi α} {sz : Nat} {v : Value} {l : List α} {n : Int} {x : α} {kd : IntKind} (F : ae rep sz g v l) (hx : ix l n = some x) (K : ∀ b o vs, pc v sz n.toNat b o → g.bE b o vs → rep g vs x → R (al b o) h) : WP (.cS sz) [v, .int kd n] h R := by
 obtain ⟨i, rfl, hi, hx⟩ := Hu hx
 obtain ⟨ls, h1, h2⟩ := F
 obtain ⟨cs, h3, h4⟩ := h2.get hx
 obtain ⟨b, o, h7, h5, h6⟩ := h1.idx h3
 exact h6 kd h R (K b o cs h7 h5 h4)
theorem pc.same {v : Value} {sz i b o b' o' : Nat} (h1 : pc v sz i b o) (h2 : pc v sz i b' o') : b = b' ∧ o = o' := by
 obtain ⟨o0, n, cap, e1, e2⟩ := h1
 obtain ⟨o1, n1, ami, e3, e4⟩ := h2
 rw [e1] at e3; cases e3
 exact ⟨rfl, e2.trans e4.symm⟩
theorem ahk {b o : Nat} : oU (al b o) (al b o) = true := by
 show (Nat.beq b b && Nat.beq o o) = true
 rw [Nat.beq_refl, Nat.beq_refl]; rfl
theorem Sep.Hz {α : Type} {rep : gi α} {ty : TypeId} {sz : Nat} {v : Value} {ls : List (List Value)} {l : List α} (S : Sep c g h Γ) (k : Nat) (hk : Γ[k]? = some (.sl ty sz v ls)) (A : aM (rep g) ls l) (K : R (vi (l.length : Int)) h) : WP .di [v] h R :=
 gG.len (dV.read (S.dN _ (List.mem_of_getElem? hk))) (by rw [A.1]; exact K)
theorem Sep.og {α : Type} {rep : gi α} {ty : TypeId} {sz : Nat} {v : Value} {ls : List (List Value)} {l : List α} {n : Int} {x : α} {kd : IntKind} (S : Sep c g h Γ) (k : Nat) (hk : Γ[k]? = some (.sl ty sz v ls)) (A : aM (rep g) ls l) (hx : ix l n = some x)
 (K : ∀ b o cs, pc v sz n.toNat b o → ls[n.toNat]? = some cs → rep g cs x → R (al b o) h) : WP (.cS sz) [v, .int kd n] h R := by
 obtain ⟨i, rfl, hi, hx⟩ := Hu hx
 obtain ⟨cs, h3, h4⟩ := A.get hx
 obtain ⟨b, o, h5, _, h6⟩ := (dV.read (S.dN _ (List.mem_of_getElem? hk))).idx h3
 exact h6 kd h R (K b o cs h5 h3 h4)
theorem Sep.ahl {α : Type} {rep : gi α} {ty : TypeId} {sz : Nat} {v : Value} {ls : List (List Value)} {l : List α} {n : Int} {x : α} {kd : IntKind} {b o : Nat} (S : Sep c g h Γ) (k : Nat) (hk : Γ[k]? = some (.sl ty sz v ls)) (A : aM (rep g) ls l) (hx : ix l n = some x) (E : pc v sz n.toNat b o) : WP (.cS sz) [v, .int kd n] h (fun v' _ => oU v' (al b o) = true) :=
 S.og k hk A hx fun b' o' cs E' _ _ => by obtain ⟨rfl, rfl⟩ := E.same E'; exact ahk
theorem gG.elem {h2 : AH} {sz : Nat} {v : Value} {ls : List (List Value)} (H : gG h2 sz v ls) {i b o : Nat} {x : List Value} (hx : ls[i]? = some x) (E : pc v sz i b o) : h2.bE b o x := by
 obtain ⟨b', o', ⟨o0, n, cap, e1, e2⟩, h1, _⟩ := H.idx hx
 obtain ⟨o0', n', cH, e3, e4⟩ := E
 rw [e1] at e3
 cases e3
 rw [e4, ← e2]; exact h1
theorem Sep.uc {ty : TypeId} {sz : Nat} {v u : Value} {ls : List (List Value)} {i b o j : Nat} {cs : List Value} (S : Sep c g h Γ) (k : Nat) (hk : Γ[k]? = some (.sl ty sz v ls)) (E : pc v sz i b o) (hc : ls[i]? = some cs) (hv : cs[j]? = some u) (K : R u h) : WP .ay [al b (o + j)] h R :=
 (Gk (((dV.read (S.dN _ (List.mem_of_getElem? hk))).elem hc E) j u hv)).2 K
theorem dV.wr {ty : TypeId} {sz : Nat} {v : Value} {ls : List (List Value)} {i b o j : Nat} {cs m : List Value} (H : dV h ty sz v ls) (E : pc v sz i b o) (hc : ls[i]? = some cs) (hj : j + m.length ≤ sz) :
 ec v = [b] ∧ h.can b (o + j) m.length ∧ dV (h.wr b (o + j) m) ty sz v (ls.set i (kp cs j m)) := by
 have hi : i < ls.length := (List.getElem?_eq_some_iff.1 hc).1
 obtain ⟨o0, n0, OU, e1, e2⟩ := E
 subst e2
 have le : (i + 1) * sz ≤ ls.length * sz := Nat.mul_le_mul_right _ hi
 have hk : i * sz + sz ≤ ls.length * sz := by rw [Nat.add_mul, Nat.one_mul] at le; exact le
 have fl : ∀ (hs : ∀ x ∈ ls, x.length = sz) (q : Nat) (u : Value), (ls.set i (kp cs j m)).flatten[q]? = some u → (if i * sz + j ≤ q ∧ q < i * sz + j + m.length then m[q - (i * sz + j)]? else ls.flatten[q]?) = some u := by
  intro hs q u hu
  have ei : cs.length = sz := hs cs (List.mem_of_getElem? hc)
  rw [Xz hs (by rw [OT (by omega), ei]) hi] at hu
  by_cases h1 : i * sz ≤ q ∧ q < i * sz + sz
  · rw [if_pos h1, XP (by omega)] at hu
    by_cases h2 : j ≤ q - i * sz ∧ q - i * sz < j + m.length
    · rw [if_pos h2] at hu; rw [if_pos (by omega)]; rw [show q - (i * sz + j) = q - i * sz - j by omega]; exact hu
    · rw [if_neg h2] at hu; rw [if_neg (by omega)]
      have := NW hs hc (q - i * sz) u hu
      rwa [show i * sz + (q - i * sz) = q by omega] at this
  · rw [if_neg h1] at hu; rw [if_neg (by omega)]; exact hu
 have XQ : ∀ (hs : ∀ x ∈ ls, x.length = sz), ∀ x ∈ ls.set i (kp cs j m), x.length = sz := fun hs x hx => by
  rcases List.mem_or_eq_of_mem_set hx with h1 | h1
  · exact hs x h1
  · have ei : cs.length = sz := hs cs (List.mem_of_getElem? hc)
    rw [h1, OT (by omega), ei]
 have XR : ∀ lo hi cf cc, h.ob.get b = some (.cells lo hi cf true cc) → (h.wr b (o0 + i * sz + j) m).ob.get b = some (.cells lo hi cf true (iS cc (o0 + i * sz + j) m)) := fun lo hi cf cc hg => by
  unfold AH.wr; rw [hg]; show (h.ob.set b _).get b = _; rw [NT.cZ, if_pos rfl]
 cases H with
 | nil => simp at hi
 | un b' o' n lo du cc ls hn hb hg h1 h2 hr hs =>
  cases e1
  have fE : h.can b (o0 + i * sz + j) m.length := ⟨lo, du, ty, cc, hg, by omega, by rw [hn] at h2; omega⟩
  refine ⟨rfl, fE, .un b o0 n0 lo du _ _ (by simp [hn]) hb (XR _ _ _ _ hg) h1 h2 (fun q u hu => ?_) (XQ hs)⟩
  rw [AH.tL fE (Nat.le_refl _)]
  have := fl hs q u hu
  split at this
  · rw [if_pos (by omega)]; rw [show o0 + q - (o0 + i * sz + j) = q - (i * sz + j) by omega]; exact this
  · rw [if_neg (by omega)]; exact hr q u this
 | kn b' o' n cap lo du cf cc ls hn hb oW hg h1 h2 hr hs =>
  cases e1
  have : ls.length * sz ≤ OU * sz := Nat.mul_le_mul_right _ (by omega)
  have fE : h.can b (o0 + i * sz + j) m.length := ⟨lo, du, cf, cc, hg, by omega, by omega⟩
  refine ⟨rfl, fE, .kn b o0 n0 OU lo du cf _ _ (by simp [hn]) hb oW (XR _ _ _ _ hg) h1 h2 (fun q u hu => ?_) (XQ hs)⟩
  rw [AH.tL fE (Nat.le_refl _)]
  have := fl hs q u hu
  split at this
  · rw [if_pos (by omega)]; rw [show o0 + q - (o0 + i * sz + j) = q - (i * sz + j) by omega]; exact this
  · rw [if_neg (by omega)]; exact hr q u this
theorem dV.lt {ty : TypeId} {sz : Nat} {v : Value} {ls : List (List Value)} (H : dV h ty sz v ls) (ok : h.Ok) : ∀ b ∈ ec v, b < h.nx := by
 cases H with
 | nil => intro b hb; simp [ec] at hb
 | un b o n lo hi c ls hn hb hg h1 h2 hr hs => intro b' cm; simp [ec] at cm; subst cm; exact AH.lt_of_get ok hg
 | kn b o n cap lo hi cf c ls hn hb hc hg h1 h2 hr hs => intro b' cm; simp [ec] at cm; subst cm; exact AH.lt_of_get ok hg
theorem XS (v : Value) : (ec v).Nodup := by unfold ec; split <;> simp
theorem ud {ty : TypeId} {sz : Nat} {v : Value} {ls : List (List Value)} : (Ob.sl ty sz v ls).bz.Nodup := XS v
theorem Sep.HA {ty : TypeId} {sz n : Nat} {v u : Value} {ls : List (List Value)} {i b o j : Nat} {cs : List Value} (m : List Value) (S : Sep c g h (.sl ty sz v ls :: Γ)) (E : pc v sz i b o) (hc : ls[i]? = some cs) (hm : cellsOf u = m) (hn : m.length = n) (ha : cP m = true) (hj : j + n ≤ sz)
 (K : ∀ h', Sep c g h' (.sl ty sz v (ls.set i (kp cs j m)) :: Γ) → R undef h') : WP (.store n) [al b (o + j), u] h R := by
 subst hm; subst hn
 have H : dV h ty sz v ls := S.dN _ List.mem_cons_self
 obtain ⟨h1, h2, h3⟩ := H.wr E hc hj
 refine (Gm h2 rfl ha).2 (K _ ?_)
 refine S.change _ (AH.se S.ok _ _ _) (by rw [AH.lh]; exact Nat.le_refl _) (fun f _ hf => AH.tK h (fun e => hf (by subst e; show f ∈ ec v; rw [h1]; simp))) h3 (XS v) (fun b' cm => ⟨by rw [AH.lh]; exact H.lt S.ok b' cm, .inr cm⟩)
theorem Sep.mks {ty : TypeId} {sz : Nat} {zero : List Value} {n : Int} {k1 k2 : IntKind} (S : Sep c g h Γ) (hn : (decide (0 ≤ n) && decide (n ≤ 65536)) = true) (hz : zero.length = sz) (ha : cP zero = true) (K : ∀ v h', Sep c g h' (.sl ty sz v (List.replicate n.toNat zero) :: Γ) → R v h') :
 WP (.mkSlice ty sz zero) [.int k1 n, .int k2 n] h R := by
 rw [Bool.and_eq_true, decide_eq_true_eq, decide_eq_true_eq] at hn
 obtain ⟨i, rfl⟩ : ∃ i : Nat, n = i := ⟨n.toNat, by omega⟩
 rw [Int.toNat_natCast] at K
 have eO : ∀ k : Nat, cP (List.replicate k zero).flatten = true := by
  intro k
  induction k with
  | zero => rfl
  | succ k ih =>
   rw [List.replicate_succ, List.flatten_cons]
   have app : ∀ (l m : List Value), cP l = true → cP m = true → cP (l ++ m) = true := fun l m h1 h2 => by
    induction l with
    | nil => exact h2
    | cons v l M0 =>
     rw [sj, Bool.and_eq_true] at h1
     rw [List.cons_append, sj, Bool.and_eq_true]
     exact ⟨h1.1, M0 h1.2⟩
   exact app _ _ ha ih
 refine (V2 (Nat.le_refl i) (by omega) hz (eO i)).2 (K _ _ ?_)
 have hlen : (List.replicate i zero).flatten.length = i * sz := by rw [pb (sz := sz) (fun x hx => by rw [(List.mem_replicate.1 hx).2]; exact hz)]; simp
 refine S.add _ (AH.sd S.ok _ _) (Nat.le_succ _) (cU.new h _ _).get ?_ ud (fun b hb => by simp [Ob.bz, ec] at hb; subst hb; exact ⟨Nat.lt_succ_self _, Nat.le_refl _⟩)
 refine .kn h.nx 0 i i 0 (List.replicate i zero).flatten.length ty _ _ (by simp) (Nat.le_refl _) (by unfold aT; omega) (by show (h.ob.set h.nx _).get h.nx = _; rw [NT.cZ, if_pos rfl]) (Nat.le_refl _) (by rw [hlen]; omega) ?_ (fun x hx => by rw [(List.mem_replicate.1 hx).2]; exact hz)
 exact AH.Ge h ty _
theorem Sep.ue {ty : TypeId} {n sz : Nat} {cells : List Value} {ps : List (Nat × Nat)} {vs : List Value} (ls : List (List Value)) (S : Sep c g h Γ) (hf : kq cells ps vs = some ls.flatten) (hn : ls.length = n) (hu : n < 1000000) (hs : ∀ x ∈ ls, x.length = sz) (ha : cP ls.flatten = true)
 (K : ∀ v h', Sep c g h' (.sl ty sz v ls :: Γ) → R v h') : WP (.buildSlice ty n cells ps) vs h R := by
 subst hn
 refine (afe hf ha).2 (K _ _ ?_)
 refine S.add _ (AH.sd S.ok _ _) (Nat.le_succ _) (cU.new h _ _).get ?_ ud (fun b hb => by simp [Ob.bz, ec] at hb; subst hb; exact ⟨Nat.lt_succ_self _, Nat.le_refl _⟩)
 exact .kn h.nx 0 ls.length ls.length 0 ls.flatten.length ty _ ls rfl (Nat.le_refl _) (by unfold aT; omega) (by show (h.ob.set h.nx _).get h.nx = _; rw [NT.cZ, if_pos rfl]) (Nat.le_refl _) (by rw [pb hs]; omega) (AH.Ge h ty _) hs
theorem gG.src {sz : Nat} {x : Value} {xs : List (List Value)} (H : gG h sz x xs) (h0 : 0 < sz) (k : Nat → List Value → Bool) : k9 h sz x k = k xs.length xs.flatten := by
 cases H with
 | nil => exact ae6 sz k
 | mk b o n cap _ hn hc hs hr =>
  subst hn
  cases xs with
  | nil => exact ae8 k
  | cons y l => exact ae7 hr (pb hs) (Nat.mul_pos (by simp) h0) k
theorem XT {b o lo hi at_ : Nat} {ty : TypeId} {rw : Bool} {cc : NT Value} {old xs : List Value} {h2 : AH} (hg2 : h2.ob.get b = some (.cells lo hi ty rw (iS cc at_ xs))) (e : at_ = o + old.length) (h1 : lo ≤ o) (Nw : o + old.length + xs.length ≤ hi) (ho : ∀ q u, old[q]? = some u → cc.get (o + q) = some u) : h2.bE b o (old ++ xs) := by
 subst e
 intro q u hu
 have hq : q < (old ++ xs).length := (List.getElem?_eq_some_iff.1 hu).1
 rw [List.length_append] at hq
 unfold AH.rd
 rw [hg2]
 show (if lo ≤ o + q ∧ o + q + 1 ≤ hi then (iS cc (o + old.length) xs).get (o + q) else none) = some u
 rw [if_pos ⟨by omega, by omega⟩, wc]
 by_cases h : q < old.length
 · rw [if_neg (by omega)]
   rw [List.getElem?_append_left h] at hu
   exact ho q u hu
 · rw [if_pos ⟨by omega, by omega⟩]
   rw [List.getElem?_append_right (by omega)] at hu
   rw [show o + q - (o + old.length) = q - old.length by omega]; exact hu
theorem XU {b o lo hi : Nat} {ty : TypeId} {rw : Bool} {cc : NT Value} {l : List Value} (hg : h.ob.get b = some (.cells lo hi ty rw cc)) (hr : h.bE b o l) : ∀ q u, l[q]? = some u → cc.get (o + q) = some u := fun q u hu => by
 obtain ⟨tN, du, cf, l7, c', g1, _, _, g4⟩ := Gf (hr q u hu)
 rw [hg] at g1; cases g1; exact g4
theorem OV {sz : Nat} {ls xs : List (List Value)} (hs : ∀ x ∈ ls, x.length = sz) (hx : ∀ x ∈ xs, x.length = sz) : ∀ x ∈ ls ++ xs, x.length = sz := fun x h => by
 rcases List.mem_append.1 h with h | h
 · exact hs x h
 · exact hx x h
theorem XV {l m : List Value} (h1 : cP l = true) (h2 : cP m = true) : cP (l ++ m) = true := by
 induction l with
 | nil => exact h2
 | cons v l ih =>
  rw [sj, Bool.and_eq_true] at h1
  rw [List.cons_append, sj, Bool.and_eq_true]
  exact ⟨h1.1, ih h1.2⟩
theorem gG.vo {sz : Nat} {x : Value} {xs : List (List Value)} (H : gG h sz x xs) : ∀ y ∈ xs, y.length = sz := by
 cases H with
 | nil => intro y hy; simp at hy
 | mk b o n cap ls hn hc hs hr => exact hs
theorem ahm {ty : TypeId} {sz n : Nat} {zero xs : List Value} {x : Value} (hx : ∀ k : Nat → List Value → Bool, k9 h sz x k = k n xs) (h1 : 1 ≤ sz) (hz : zero.length = sz) (hn : 0 < n) {b o cap : Nat} {s : Option Nat} (hb : n ≤ 1048576) (hc : cap < n) (ha : cP xs = true) :
 WP (.append ty sz zero) [.slice (some ⟨b, o, s⟩) 0 cap, x] h R ↔ R (dL h.nx 0 n (aT + sz)) (h.new ty xs) := cC fun k => by
 rw [wi hx h1 hz]
 show (bif Nat.beq n 0 then k (.slice (some ⟨b, o, none⟩) 0 cap) h else fN (Nat.add 0 n) fun gR => iff (Nat.ble gR 1048576) (bif Nat.ble aT cap then _ else bif Nat.ble gR cap then _ else bif Nat.beq 0 0 then jR h ty xs (fun b' h => fN (Nat.add aT sz) fun cp => k (.slice (some ⟨b', 0, none⟩) gR cp) h) else _)) = _
 have e : Nat.ble (0 + n) 1048576 = true := by rw [Nat.ble_eq]; omega
 have e2 : Nat.ble aT cap = false := by
  have : ¬ aT ≤ cap := by unfold aT; omega
  cases hh : Nat.ble aT cap with
  | false => rfl
  | true => rw [Nat.ble_eq] at hh; exact absurd hh this
 have e3 : Nat.ble (0 + n) cap = false := by
  cases hh : Nat.ble (0 + n) cap with
  | false => rfl
  | true => rw [Nat.ble_eq] at hh; omega
 rw [eP (show n ≠ 0 by omega)]
 simp only [cond_false]
 rw [bO, show Nat.add 0 n = 0 + n from rfl, e, eJ, e2, e3]
 show jR h ty xs _ = _
 rw [we h ty ha, bO, Nat.zero_add]; rfl
theorem ahn {ty : TypeId} {sz n : Nat} {zero xs : List Value} {x : Value} (hx : ∀ k : Nat → List Value → Bool, k9 h sz x k = k n xs) (h1 : 1 ≤ sz) (hz : zero.length = sz) (hn : 0 < n) {b o len cap : Nat} {s : Option Nat} (hb : len + n ≤ 1048576) (hc : len + n ≤ cap) (hu : cap < aT) (ha : cP xs = true) (hw : h.can b (o + len * sz) xs.length) :
 WP (.append ty sz zero) [.slice (some ⟨b, o, s⟩) len cap, x] h R ↔ R (dL b o (len + n) cap) (h.wr b (o + len * sz) xs) := cC fun k => by
 rw [wi hx h1 hz]
 show (bif Nat.beq n 0 then k (.slice (some ⟨b, o, none⟩) len cap) h else fN (Nat.add len n) fun gR => iff (Nat.ble gR 1048576) (bif Nat.ble aT cap then _ else bif Nat.ble gR cap then fN (Nat.add o (Nat.mul len sz)) (fun at_ => oT h b at_ xs fun h => k (.slice (some ⟨b, o, none⟩) gR cap) h) else _)) = _
 have e : Nat.ble (len + n) 1048576 = true := by rw [Nat.ble_eq]; omega
 have e2 : Nat.ble aT cap = false := by
  cases hh : Nat.ble aT cap with
  | false => rfl
  | true => rw [Nat.ble_eq] at hh; omega
 have e3 : Nat.ble (len + n) cap = true := by rw [Nat.ble_eq]; exact hc
 rw [eP (show n ≠ 0 by omega)]
 simp only [cond_false]
 rw [bO, show Nat.add len n = len + n from rfl, e, eJ, e2, e3]
 simp only [cond_true, cond_false]
 rw [bO]
 show oT h b (o + len * sz) xs _ = _
 rw [Gh hw ha]
theorem Sep.app {ty : TypeId} {sz : Nat} {zero : List Value} {s x : Value} {ls xs : List (List Value)} (S : Sep c g h (.sl ty sz s ls :: Γ)) (X : gG h sz x xs) (hb : decide (ls.length + xs.length ≤ 1048576) = true) (h0 : 0 < sz) (hz : zero.length = sz) (ha : cP xs.flatten = true) (hal : cP ls.flatten = true)
 (K : ∀ s' h', Sep c g h' (.sl ty sz s' (ls ++ xs) :: Γ) → R s' h') : WP (.append ty sz zero) [s, x] h R := by
 rw [decide_eq_true_eq] at hb
 have uf := X.src h0
 have jP := X.vo
 have H : dV h ty sz s ls := S.dN _ List.mem_cons_self
 have OW : xs.flatten.length = xs.length * sz := pb jP
 cases xs with
 | nil =>
  cases H with
  | nil => exact (ae9 uf h0 hz).2 (K _ _ (by simpa using S))
  | un b o n lo hi cc ls hn wF hg h1 h2 hr hs => exact (V3 uf h0 hz).2 (K _ _ (by simpa using S))
  | kn b o n cap lo hi cf cc ls hn wF oW hg h1 h2 hr hs => exact (V3 uf h0 hz).2 (K _ _ (by simpa using S))
 | cons y xs =>
  have mW : 0 < (y :: xs).length := by simp
  generalize y :: xs = xs at *
  have aho : ∀ (all : List (List Value)), all.length < aT → (∀ x ∈ all, x.length = sz) → dV (h.new ty all.flatten) ty sz (dL h.nx 0 all.length (aT + sz)) all := fun all hu hs => by
   refine .un h.nx 0 all.length 0 all.flatten.length _ all rfl hu (by show (h.ob.set h.nx _).get h.nx = _; rw [NT.cZ, if_pos rfl]) (Nat.le_refl _) ?_ (AH.Ge h ty _) hs
   rw [pb hs]; omega
  have amj : 1048576 < aT := by unfold aT; omega
  have fresh : ∀ (all : List (List Value)), all.length < aT → (∀ x ∈ all, x.length = sz) → Sep c g (h.new ty all.flatten) (.sl ty sz (dL h.nx 0 all.length (aT + sz)) all :: Γ) := fun all hu hs =>
   S.change _ (AH.sd S.ok _ _) (Nat.le_succ _) (fun f hf _ => (cU.new h ty _).get f hf) (aho all hu hs) ud (fun b hb => by simp [Ob.bz, ec] at hb; subst hb; exact ⟨Nat.lt_succ_self _, .inl (Nat.le_refl _)⟩)
  cases H with
  | nil =>
   refine (afa uf h0 hz mW (by simpa using hb) ha).2 (K _ _ ?_)
   exact fresh xs (by simp at hb; omega) jP
  | un b o n lo hi cc ls hn wF hg h1 h2 hr hs =>
   subst hn
   refine (afb uf h0 hz mW hb ha hg h1 h2).2 (K _ _ ?_)
   have bC := AH.lt_of_get S.ok hg
   have Cn : (h.grown b o ty cc (o + ls.length * sz) (o + (ls.length + xs.length) * sz) xs.flatten).ob.get h.nx = some (.cells o (o + (ls.length + xs.length) * sz) ty true (iS cc (o + ls.length * sz) xs.flatten)) := by
    show ((h.kill b).dY _).ob.get h.nx = _
    rw [AH.qq, if_pos (show h.nx = (h.kill b).nx from rfl)]
   refine S.change _ (AH.yd (AH.VZ S.ok b) _) (Nat.le_succ _) (fun f hf cL => ?_) ?_ ud (fun b' cm => by simp [Ob.bz, ec] at cm; subst cm; exact ⟨Nat.lt_succ_self _, .inl (Nat.le_refl _)⟩)
   · have hfb : f ≠ b := fun e => cL (by rw [e]; simp [Ob.bz, ec])
     show ((h.kill b).dY _).ob.get f = _
     rw [AH.qq, if_neg (show ¬ f = (h.kill b).nx from fun e => by have e' : f = h.nx := e; omega), AH.Nv, if_neg hfb]
   · refine .un h.nx o (ls.length + xs.length) o (o + (ls.length + xs.length) * sz) _ (ls ++ xs) (by simp) (by omega) Cn (Nat.le_refl _) (Nat.le_refl _) ?_ (OV hs jP)
     rw [List.flatten_append]
     exact XT Cn (by rw [pb hs]) (Nat.le_refl _) (by rw [pb hs, OW, Nat.add_mul]; omega) (XU hg hr)
  | kn b o n cap lo hi cf cc ls hn wF oW hg h1 h2 hr hs =>
   subst hn
   by_cases nb : ls.length + xs.length ≤ cap
   · have hmul : (ls.length + xs.length) * sz ≤ cap * sz := Nat.mul_le_mul_right _ nb
     rw [Nat.add_mul] at hmul
     have hw : h.can b (o + ls.length * sz) xs.flatten.length := ⟨lo, hi, cf, cc, hg, by omega, by rw [OW]; omega⟩
     refine (ahn uf h0 hz mW hb nb oW ha hw).2 (K _ _ ?_)
     have Cn : (h.wr b (o + ls.length * sz) xs.flatten).ob.get b = some (.cells lo hi cf true (iS cc (o + ls.length * sz) xs.flatten)) := by
      unfold AH.wr; rw [hg]; show (h.ob.set b _).get b = _; rw [NT.cZ, if_pos rfl]
     refine S.change _ (AH.se S.ok _ _ _) (by rw [AH.lh]; exact Nat.le_refl _) (fun f _ hf => AH.tK h (fun e => hf (by rw [e]; simp [Ob.bz, ec]))) ?_ ud (fun b' cm => by simp [Ob.bz, ec] at cm; subst cm; exact ⟨by rw [AH.lh]; exact AH.lt_of_get S.ok hg, .inr (by simp [Ob.bz, ec])⟩)
     refine .kn b o (ls.length + xs.length) cap lo hi cf _ (ls ++ xs) (by simp) nb oW Cn h1 h2 ?_ (OV hs jP)
     rw [List.flatten_append]
     exact XT Cn (by rw [pb hs]) h1 (by rw [pb hs, OW]; omega) (XU hg hr)
   · have mM := hr
     have OX := fresh (ls ++ xs) (by simp; omega) (OV hs jP)
     rw [List.flatten_append, List.length_append] at OX
     cases ls with
     | nil =>
      have : WP (.append ty sz zero) [dL b o 0 cap, x] h R := (ahm uf h0 hz mW (by simpa using hb) (by simp at nb; omega) ha).2 (K _ _ (by simpa using OX))
      simpa using this
     | cons z ls =>
      exact (afc uf h0 hz mW hb (by omega) (XV hal ha) (by simp) hr (pb hs)).2 (K _ _ OX)
def sE {α : Type} (l : List α) (a b : Int) : Option (List α) := gu (decide (0 ≤ a) && decide (a ≤ b) && decide (b ≤ (l.length : Int))) (some ((l.take b.toNat).drop a.toNat))
theorem XW {α : Type} {l m : List α} {a b : Int} (h : sE l a b = some m) : ∃ i j : Nat, a = i ∧ b = j ∧ i ≤ j ∧ j ≤ l.length ∧ m = (l.take j).drop i := by
 obtain ⟨h1, h2⟩ := qQ h
 simp only [Bool.and_eq_true, decide_eq_true_eq] at h1
 cases h2
 exact ⟨a.toNat, b.toNat, by omega, by omega, by omega, by omega, rfl⟩
def qS (sz : Nat) (v : Value) (i j : Nat) : Value := match v with
 | .slice (some a) n cap => if cap < aT then (if cap = i then .slice (some ⟨a.block, a.off, none⟩) (j - i) 0 else .slice (some ⟨a.block, a.off + i * sz, none⟩) (j - i) (cap - i)) else .slice (some ⟨a.block, a.off + i * sz, none⟩) (j - i) cap
 | v => v
theorem HB {sz : Nat} {b o n cap i j : Nat} (hc : OE sz n cap) (yS : i ≤ j) (hj : j ≤ n) (lo hi : Bool) {vs : List Value} (hl : lo = false → i = 0) (hh : hi = false → j = n) {k1 k2 : IntKind} (hv : vs = (if lo then [.int k1 (i : Int)] else []) ++ (if hi then [.int k2 (j : Int)] else [])) (K : R (qS sz (dL b o n cap) i j) h) :
    WP (.slice sz lo hi false) (dL b o n cap :: vs) h R := by
  have key : ∀ k : KV, (iff (true && Nat.ble i j && Nat.ble j cap && (Nat.ble j n || !(Nat.ble aT cap)) && true && (bif Nat.ble aT cap then Nat.beq cap (Nat.add aT sz) else true)) (rV sz i j cap cap false b o fun v => k v h)) = k (qS sz (dL b o n cap) i j) h := fun k => by
    obtain ⟨hn, hc⟩ := hc
    rcases hc with ⟨h1, h2⟩ | h1
    · have e1 : Nat.ble aT cap = false := by
        cases hh : Nat.ble aT cap with
        | false => rfl
        | true => rw [Nat.ble_eq] at hh; omega
      have e2 : (true && Nat.ble i j && Nat.ble j cap && (Nat.ble j n || !(Nat.ble aT cap)) && true && (bif Nat.ble aT cap then Nat.beq cap (Nat.add aT sz) else true)) = true := by
        rw [e1]; simp only [Bool.and_eq_true, Nat.ble_eq, Bool.or_eq_true, Bool.not_false, cond_false]; exact ⟨⟨⟨⟨⟨trivial, yS⟩, by omega⟩, .inl hj⟩, trivial⟩, trivial⟩
      rw [e2, eJ]
      unfold rV
      rw [bO, e1]
      show iff (Nat.ble (Nat.succ cap) aT) _ = _
      have e3 : Nat.ble (Nat.succ cap) aT = true := by rw [Nat.ble_eq]; exact h2
      rw [e3, eJ]
      show _ = k (if cap < aT then (if cap = i then .slice (some ⟨b, o, none⟩) (j - i) 0 else .slice (some ⟨b, o + i * sz, none⟩) (j - i) (cap - i)) else .slice (some ⟨b, o + i * sz, none⟩) (j - i) cap) h
      rw [if_pos h2]
      by_cases jz : cap = i
      · rw [if_pos jz, j6 jz]; rfl
      · rw [if_neg jz, eP jz]
        simp only [cond_false]
        rw [bO, bO]; rfl
    · subst h1
      have e1 : Nat.ble aT (aT + sz) = true := by rw [Nat.ble_eq]; omega
      have e4 : Nat.beq (aT + sz) (Nat.add aT sz) = true := by rw [Nat.beq_eq]; rfl
      have e2 : (true && Nat.ble i j && Nat.ble j (aT + sz) && (Nat.ble j n || !(Nat.ble aT (aT + sz))) && true && (bif Nat.ble aT (aT + sz) then Nat.beq (aT + sz) (Nat.add aT sz) else true)) = true := by
        rw [e1, e4]; simp only [Bool.and_eq_true, Nat.ble_eq, Bool.or_eq_true, Bool.not_true, cond_true]; exact ⟨⟨⟨⟨⟨trivial, yS⟩, by omega⟩, .inl hj⟩, trivial⟩, trivial⟩
      rw [e2, eJ]
      unfold rV
      rw [bO, e1]
      simp only [Bool.not_false, Bool.and_true, cond_true]
      rw [bO]
      show _ = k (if aT + sz < aT then _ else .slice (some ⟨b, o + i * sz, none⟩) (j - i) (aT + sz)) h
      rw [if_neg (by omega)]; rfl
  subst hv
  cases lo <;> cases hi
  · have hl := hl rfl; have hh := hh rfl; subst hl; subst hh
    exact (cC (p := .slice sz false false false) (vs := [dL b o j cap]) (v := qS sz (dL b o j cap) 0 j) (h' := h) (h := h) key).2 K
  · have hl := hl rfl; subst hl
    exact (cC (p := .slice sz false true false) (vs := [dL b o n cap, .int k2 (j : Int)]) (v := qS sz (dL b o n cap) 0 j) (h' := h) (h := h) key).2 K
  · have hh := hh rfl; subst hh
    exact (cC (p := .slice sz true false false) (vs := [dL b o j cap, .int k1 (i : Int)]) (v := qS sz (dL b o j cap) i j) (h' := h) (h := h) key).2 K
  · exact (cC (p := .slice sz true true false) (vs := [dL b o n cap, .int k1 (i : Int), .int k2 (j : Int)]) (v := qS sz (dL b o n cap) i j) (h' := h) (h := h) key).2 K
theorem dV.cut {ty : TypeId} {sz : Nat} {v : Value} {ls : List (List Value)} (H : dV h ty sz v ls) {i j : Nat} (yS : i ≤ j) (hj : j ≤ ls.length) (lo hi : Bool) (hl : lo = false → i = 0) (hh : hi = false → j = ls.length) {k1 k2 : IntKind} {vs : List Value} (hv : vs = (if lo then [.int k1 (i : Int)] else []) ++ (if hi then [.int k2 (j : Int)] else [])) :
 ∃ v', dV h ty sz v' ((ls.take j).drop i) ∧ ec v' = ec v ∧ ∀ (R : Value → AH → Prop), R v' h → WP (.slice sz lo hi false) (v :: vs) h R := by
 cases H with
 | nil =>
  have hj0 : j = 0 := by simpa using hj
  have oh : i = 0 := by omega
  subst hj0; subst oh
  refine ⟨bN, .nil, rfl, fun R K => ?_⟩
  subst hv
  cases lo <;> cases hi <;> exact fun k hk => hk _ _ K
 | un b o n tN du cc ls hn wF hg h1 h2 hr hs =>
  subst hn
  refine ⟨qS sz (dL b o ls.length (aT + sz)) i j, ?_, ?_, fun R K => HB ⟨wF, .inr rfl⟩ yS hj lo hi hl hh hv K⟩
  · show dV h ty sz (if aT + sz < aT then _ else .slice (some ⟨b, o + i * sz, none⟩) (j - i) (aT + sz)) _
    rw [if_neg (by omega)]
    have m1 : i * sz ≤ j * sz := Nat.mul_le_mul_right _ yS
    have m2 : j * sz ≤ ls.length * sz := Nat.mul_le_mul_right _ hj
    refine .un b _ _ tN du cc _ (by simp; omega) (by omega) hg (by omega) (by rw [Nat.sub_mul]; omega) ?_ (fun x hx => hs x (List.mem_of_mem_take (List.mem_of_mem_drop hx)))
    rw [OF i (fun x hx => hs x (List.mem_of_mem_take hx)), OG j hs]
    exact OI _ (OH _ hr)
  · show ec (if aT + sz < aT then _ else .slice (some ⟨b, o + i * sz, none⟩) (j - i) (aT + sz)) = _
    rw [if_neg (by omega)]; rfl
 | kn b o n cap tN du cf cc ls hn wF oW hg h1 h2 hr hs =>
  subst hn
  refine ⟨qS sz (dL b o ls.length cap) i j, ?_, ?_, fun R K => HB ⟨by omega, .inl ⟨wF, oW⟩⟩ yS hj lo hi hl hh hv K⟩
  · show dV h ty sz (if cap < aT then (if cap = i then .slice (some ⟨b, o, none⟩) (j - i) 0 else .slice (some ⟨b, o + i * sz, none⟩) (j - i) (cap - i)) else .slice (some ⟨b, o + i * sz, none⟩) (j - i) cap) _
    rw [if_pos oW]
    have m1 : i * sz ≤ cap * sz := Nat.mul_le_mul_right _ (by omega)
    by_cases jz : cap = i
    · rw [if_pos jz]
      have : j = i := by omega
      subst this
      have e : (ls.take j).drop j = [] := List.drop_of_length_le (by rw [List.length_take]; omega)
      rw [e]
      exact .kn b o _ 0 tN du cf cc [] (by simp) (by omega) (by omega) hg h1 (by omega) (AH.MY _ _ _) (by simp)
    · rw [if_neg jz]
      refine .kn b _ _ _ tN du cf cc _ (by simp; omega) (by omega) (by omega) hg (by omega) (by rw [Nat.sub_mul]; omega) ?_ (fun x hx => hs x (List.mem_of_mem_take (List.mem_of_mem_drop hx)))
      rw [OF i (fun x hx => hs x (List.mem_of_mem_take hx)), OG j hs]
      exact OI _ (OH _ hr)
  · show ec (if cap < aT then (if cap = i then .slice (some ⟨b, o, none⟩) (j - i) 0 else .slice (some ⟨b, o + i * sz, none⟩) (j - i) (cap - i)) else .slice (some ⟨b, o + i * sz, none⟩) (j - i) cap) = _
    by_cases h5 : cap = i
    · rw [if_pos oW, if_pos h5]; rfl
    · rw [if_pos oW, if_neg h5]; rfl
end
end
end Go.Ve
namespace Go.Ve
open Go.RowKit
open Classical
noncomputable section
def One {α : Type} (rep : gi α) (n : Nat) : Prop := ∀ g vs x, rep g vs x → vs.length = n ∧ cP vs = true
theorem qT (k : IntKind) : One (rI k) 1 := fun _ vs x h => by cases h; exact ⟨rfl, rfl⟩
theorem ab {v : Value} {l : List Value} (h1 : eH v = true) (h2 : cP l = true) : cP (v :: l) = true := by rw [sj, h1, h2]; rfl
theorem qU {α : Type} {rep : gi α} {n : Nat} (H : One rep n) {g : AH} {ls : List (List Value)} {l : List α} (A : aM (rep g) ls l) : cP ls.flatten = true := by
 induction ls generalizing l with
 | nil => rfl
 | cons x ls ih =>
  cases l with
  | nil => have := A.1; simp at this
  | cons y l =>
   rw [List.flatten_cons]
   refine XV (H g x y (A.2 0 x y rfl rfl)).2 (ih (l := l) ⟨by simpa using A.1, fun i a b ha hb => A.2 (i + 1) a b (by simpa using ha) (by simpa using hb)⟩)
def bytesOf (l : List UInt8) : ByteArray := ⟨⟨l⟩⟩
theorem ug {sz : Nat} : ∀ x ∈ ([] : List (List Value)), x.length = sz := fun x h => by simp at h
theorem uh {sz : Nat} {y : List Value} {l : List (List Value)} (h1 : y.length = sz) (h2 : ∀ x ∈ l, x.length = sz) : ∀ x ∈ y :: l, x.length = sz := fun x h => by
 rcases List.mem_cons.1 h with rfl | h
 · exact h1
 · exact h2 x h
theorem cJ {l m l2 r : List Value} {o n : Nat} {ps : List (Nat × Nat)} {v : Value} {vs : List Value} (h1 : cellsOf v = m) (h2 : m.length = n) (h3 : o + n ≤ l.length) (h4 : kp l o m = l2) (H : kq l2 ps vs = some r) : kq l ((o, n) :: ps) (v :: vs) = some r := by
 subst h1; subst h4
 unfold kq
 rw [if_pos ⟨h2, h3⟩]; exact H
theorem Hj {k : IntKind} {n : Int} : oU (.int k n) (.int k n) = true := by
 show (bif eS k k then kj n n else false) = true
 rw [mZ, yc]; simp
theorem agq {b o : Nat} : oU (al b o) (al b o) = true := by
 show (Nat.beq b b && Nat.beq o o) = true
 rw [Nat.beq_refl, Nat.beq_refl]; rfl
theorem gG.Hk {g : AH} {sz : Nat} {v : Value} {ls : List (List Value)} (H : gG g sz v ls) : oU v v = true := by
 cases H with
 | nil => rfl
 | mk b o n cap ls hn hc hs hr =>
  show (Nat.beq b b && Nat.beq o o && Nat.beq n n && Nat.beq cap cap) = true
  rw [Nat.beq_refl, Nat.beq_refl, Nat.beq_refl, Nat.beq_refl]; rfl
theorem ae.Hk {α : Type} {rep : gi α} {sz : Nat} {g : AH} {v : Value} {l : List α} (F : ae rep sz g v l) : oU v v = true := by obtain ⟨ls, h, _⟩ := F; exact h.Hk
theorem Ow {c want : Bool} {A : W → W} {K : W} {h : AH} (e : c = want) (H : A K h) : gk (.bool c) want A K h := by
 subst e; unfold gk; cases c <;> exact H
theorem Ov {c want : Bool} {A : W → W} {K : W} {h : AH} (e : c ≠ want) (H : K h) : gk (.bool c) want A K h := by
 unfold gk; cases c <;> cases want <;> first | exact absurd rfl e | exact H
theorem jg {want : Bool} {A : (Value → W) → W} {K : Value → W} {h : AH} (H : K undef h) : gd undef want A K h := H
theorem yT {A B : W} {h : AH} (H : A h) : br (.bool true) A B h := H
theorem oi {A B : W} {h : AH} (H : B h) : br (.bool false) A B h := H
section
variable {c : Cx} {g h g' h' : AH} {Γ : List Ob} {R : Value → AH → Prop}
theorem XX {α : Type} {len : Nat} (l : List α) (f : α → Value) (hl : l.length = len) {n : Int} {x : α} {kd : IntKind} (hx : ix l n = some x) (K : R (f x) h) : WP (.zI len) [.agg ⟨l.map f⟩, .int kd n] h R := by
 obtain ⟨i, rfl, hi, hx⟩ := Hu hx
 exact (aeQ (by omega) (by rw [List.getElem?_map, hx]; rfl)).2 K
theorem Sep.gX {ty : TypeId} {sz : Nat} {v : Value} {ls : List (List Value)} (S : Sep c g h Γ) (k : Nat) (hk : Γ[k]? = some (.sl ty sz v ls)) : eH v = true := dV.one (S.dN _ (List.mem_of_getElem? hk))
theorem Sep.rd {ty : TypeId} {sz : Nat} {v : Value} {ls : List (List Value)} (S : Sep c g h Γ) (k : Nat) (hk : Γ[k]? = some (.sl ty sz v ls)) : gG h sz v ls := dV.read (S.dN _ (List.mem_of_getElem? hk))
theorem Sep.eo (S : Sep c g h Γ) (S' : Sep ⟨g, h, []⟩ g' h' []) : Sep c g h' Γ :=
 S.call ((Sep.start S.sub S.ok).back S' S'.bQ)
theorem Sep.take (S : Sep c g h Γ) (n : Nat) : Sep c g h (Γ.take n) := by
 have ah : (Γ.take n).Sublist Γ := List.take_sublist n Γ
 have hf : ((Γ.take n).flatMap Ob.bz).Sublist (Γ.flatMap Ob.bz) := by
  have e : Γ.flatMap Ob.bz = (Γ.take n).flatMap Ob.bz ++ (Γ.drop n).flatMap Ob.bz := by rw [← List.flatMap_append, List.take_append_drop]
  rw [e]; exact List.sublist_append_left _ _
 exact ⟨S.bQ, S.sub, S.ok, S.nx, S.old, fun x hx => S.dN x (ah.subset hx), hf.nodup S.nd, fun b hb => S.own b (hf.subset hb)⟩
theorem dD {ss : List Nat} {vs : List Value} (l : List Value) (hs : cQ ss vs = true) (e : vs.flatMap cellsOf = l) (K : R (.agg ⟨l⟩) h) : WP (.cY ss) vs h R := (Gz hs).2 (by rw [e]; exact K)
theorem ahp : mU [] [] [] = some true := rfl
theorem XY {k : IntKind} {x y : Int} {ks : List Nat} {l m : List Value} {b : Bool} (H : mU ks l m = some b) : mU (0 :: ks) (.int k x :: l) (.int k y :: m) = some (decide (x = y) && b) := by
 have e : kR 0 (.int k x) (.int k y) = some (decide (x = y)) := by
  show (bif eS k k then some (kj x y) else none) = _
  rw [mZ, yc]; rfl
 unfold mU
 rw [e, H]
 cases decide (x = y) <;> rfl
theorem ahq {ks : List Nat} {l m : List Value} {b ng : Bool} {R : Value → AH → Prop} (e : mU ks l m = some b) : WP (.zR ng ks) [.agg ⟨l⟩, .agg ⟨m⟩] h R ↔ R (.bool (b != ng)) h := cC fun k => by
 show qh (mU ks l m) ng (fun v => k v h) = _
 rw [e]
 show fB (bif ng then !b else b) (fun b => k (.bool b) h) = _
 rw [gQ]; cases b <;> cases ng <;> rfl
theorem Sep.cut {α : Type} {rep : gi α} {ty : TypeId} {sz : Nat} {v : Value} {ls : List (List Value)} {l : List α} {i j : Nat} {k1 k2 : IntKind} {vs : List Value} (S : Sep c g h (.sl ty sz v ls :: Γ)) (A : aM (rep g) ls l) (h1 : i ≤ j) (h2 : j ≤ l.length) (lo hi : Bool) (hl : lo = false → i = 0) (hh : hi = false → j = l.length)
 (hv : vs = (if lo then [.int k1 (i : Int)] else []) ++ (if hi then [.int k2 (j : Int)] else [])) (K : ∀ v' oj, Sep c g h (.sl ty sz v' oj :: Γ) → aM (rep g) oj ((l.take j).drop i) → R v' h) : WP (.slice sz lo hi false) (v :: vs) h R := by
 have H : dV h ty sz v ls := S.dN _ List.mem_cons_self
 obtain ⟨v', h5, h6, h7⟩ := H.cut (k1 := k1) (k2 := k2) h1 (by rw [A.1]; exact h2) lo hi hl (fun e => (hh e).trans A.1.symm) hv
 refine h7 R (K v' _ ?_ ((A.take j).drop i))
 refine S.change _ S.ok (Nat.le_refl _) (fun _ _ _ => rfl) h5 ud (fun b hb => ?_)
 have cm : b ∈ ec v := by have kg : b ∈ ec v' := hb; rwa [h6] at kg
 exact ⟨H.lt S.ok b cm, .inr cm⟩
theorem Sep.ahr {α : Type} {rep : gi α} {ty : TypeId} {sz : Nat} {v : Value} {ls : List (List Value)} {l m : List α} {a : Int} {k1 : IntKind} (S : Sep c g h (.sl ty sz v ls :: Γ)) (A : aM (rep g) ls l) (hx : sE l a (l.length : Int) = some m) (K : ∀ v' oj, Sep c g h (.sl ty sz v' oj :: Γ) → aM (rep g) oj m → R v' h) : WP (.slice sz true false false) [v, .int k1 a] h R := by
 obtain ⟨i, j, rfl, e, h1, h2, rfl⟩ := XW hx
 exact S.cut (k2 := .i64) A h1 h2 true false (by simp) (fun _ => by omega) rfl K
theorem Sep.ahs {α : Type} {rep : gi α} {ty : TypeId} {sz : Nat} {v : Value} {ls : List (List Value)} {l m : List α} {b : Int} {k2 : IntKind} (S : Sep c g h (.sl ty sz v ls :: Γ)) (A : aM (rep g) ls l) (hx : sE l 0 b = some m) (K : ∀ v' oj, Sep c g h (.sl ty sz v' oj :: Γ) → aM (rep g) oj m → R v' h) : WP (.slice sz false true false) [v, .int k2 b] h R := by
 obtain ⟨i, j, e, rfl, h1, h2, rfl⟩ := XW hx
 exact S.cut (k1 := .i64) A h1 h2 false true (fun _ => by omega) (by simp) rfl K
end
end
end Go.Ve
namespace Go.Ve
open Go.RowKit
open Classical
noncomputable section
inductive Fl where
 | go
 | ret
 | ex (n : Nat)
def Fl.pd : Fl → Option Code
 | .go => none
 | .ret => some .ret
 | .ex n => some (.exit n)
def Fl.st : Fl → LoopState
 | .go => .ready
 | _ => .done
def Fl.on : Fl → Bool
 | .go => true
 | _ => false
def ui {ρ : Type} (f : Fl) (N Rt : Option ρ) (X : Nat → Option ρ) : Option ρ := match f with
 | .go => N
 | .ret => Rt
 | .ex n => X n
theorem HC {ρ : Type} {N Rt : Option ρ} {X : Nat → Option ρ} {r : ρ} (h : ui .go N Rt X = some r) : N = some r := h
theorem HD {ρ : Type} {N Rt : Option ρ} {X : Nat → Option ρ} {r : ρ} (h : ui .ret N Rt X = some r) : Rt = some r := h
theorem HE {N Rt : W} {X : List (Nat × W)} {h : AH} (H : N h) : rm Fl.go.pd N Rt X h := H
theorem HF {N Rt : W} {X : List (Nat × W)} {h : AH} (H : Rt h) : rm Fl.ret.pd N Rt X h := H
def kv {α σ : Type} (b : σ → α → Option (σ × Fl)) : List α → σ → Option (σ × Fl)
 | [], s => some (s, .go)
 | x :: l, s => (b s x).bind fun q => match q.2 with
  | .go => kv b l q.1
  | f => some (q.1, f)
def qV {α : Type} (P : Program) (w0 : World) (g : AH) (fv : Value) (c : α → List Value) (l : List α) : Prop :=
 eH fv = true ∧ ∃ id first bI, fv = .func (.func id) ⟨first⟩ ⟨bI⟩ ∧ ∀ (yv : Value) (Inv : Nat → AH → AH → Prop) (Stop : AH → Prop) (Q : CR → AH → Prop) (g1 h : AH), Sub g g1 →
  (∀ i g h g' h', Inv i g h → Sep ⟨g, h, []⟩ g' h' [] → Inv i g' h') → (∀ i g h, Inv i g h → Sub g h ∧ h.Ok) →
  (∀ i x g h (E K : Value → W), l[i]? = some x → Inv i g h → (∀ g' h', Sub g g' → Inv (i + 1) g' h' → K (.bool true) h') → (∀ h', Stop h' → K (.bool false) h') → dy P w0 (yv :: c x) E K h) →
  Inv 0 g1 h → (∀ v g' h', Sub g1 g' → Inv l.length g' h' → Q (.ret v) h') → (∀ v h', Stop h' → Q (.ret v) h') → WF P w0 id (first ++ (yv :: bI)) h Q
theorem qV.mono {α : Type} {P : Program} {w0 : World} {g g' : AH} {fv : Value} {c : α → List Value} {l : List α} (H : qV P w0 g fv c l) (S : Sub g g') : qV P w0 g' fv c l := by
 obtain ⟨h0, id, first, bI, h1, h2⟩ := H
 exact ⟨h0, id, first, bI, h1, fun yv Inv Stop Q g1 h s => h2 yv Inv Stop Q g1 h (S.trans s)⟩
section
variable {c : Cx} {g h g' h' : AH} {Γ : List Ob} {R : Value → W}
theorem Sep.HG {n : Nat} {lo : LO} {st : LoopState} {pd : Option Code} (S : Sep c g h (.lp n lo st pd :: Γ)) (yU : LoopState) (tR : Option Code) : Sep c g (h.lL n (lo yU tR)) (.lp n lo yU tR :: Γ) := by
 have H : h.ob.get n = some (lo st pd) := S.dN _ List.mem_cons_self
 have hn := AH.lt_of_get S.ok H
 refine S.change _ (AH.Gt S.ok hn _) (Nat.le_refl _) (fun f _ hf => ?_) ?_ (by simp [Ob.bz]) (fun b hb => by simp [Ob.bz] at hb; subst hb; exact ⟨hn, .inr (by simp [Ob.bz])⟩)
 · rw [AH.sh, if_neg (by simpa [Ob.bz] using hf)]
 · show (h.lL n (lo yU tR)).ob.get n = _
   rw [AH.sh, if_pos rfl]
theorem Sep.ox {n : Nat} {lo : LO} {st : LoopState} {pd : Option Code} {K : W} (S : Sep c g h (.lp n lo st pd :: Γ)) (k : K h) : ox lo n K h := ⟨⟨st, pd, S.dN _ List.mem_cons_self⟩, k⟩
theorem Sep.lz {n : Nat} {lo : LO} {pd : Option Code} {K : W} (S : Sep c g h (.lp n lo .ready pd :: Γ)) (k : ∀ h', Sep c g h' (.lp n lo .busy pd :: Γ) → K h') : lz lo n K h := ⟨pd, S.dN _ List.mem_cons_self, k _ (S.HG _ _)⟩
theorem Sep.ga {n : Nat} {lo : LO} {st yU : LoopState} {pd tR : Option Code} {b : Bool} (S : Sep c g h (.lp n lo st pd :: Γ)) (k : ∀ h', Sep c g h' (.lp n lo yU tR :: Γ) → R (.bool b) h') : ga lo n yU tR b R h := ⟨⟨st, pd, S.dN _ List.mem_cons_self⟩, k _ (S.HG _ _)⟩
theorem Sep.gC {K : W} : ∀ {d : List Nat} {h : AH}, Sep c g h (.ds d :: Γ) → (∀ h', Sep c g h' Γ → K h') → Go.Ve.gC d K h
 | [], h, S, k => k h S.drop
 | r :: d, h, S, k => by
  have H : ∀ x ∈ r :: d, h.ob.get x = some (.defs false) := S.dN _ List.mem_cons_self
  have hr := H r List.mem_cons_self
  have hn := AH.lt_of_get S.ok hr
  have nd : (r :: d).Nodup := by have := S.nd; rw [List.flatMap_cons] at this; exact (List.nodup_append.1 this).1
  refine ⟨hr, Sep.gC (d := d) (S.change _ (AH.Gt S.ok hn _) (Nat.le_refl _) (fun f _ hf => ?_) (fun x hx => ?_) (List.nodup_cons.1 nd).2 (fun b hb => ?_)) k⟩
  · rw [AH.sh, if_neg (fun e => hf (by subst e; exact List.mem_cons_self))]
  · rw [AH.sh, if_neg (fun e => by subst e; exact (List.nodup_cons.1 nd).1 hx)]; exact H x (List.mem_cons_of_mem _ hx)
  · have cm : b ∈ d := hb
    exact ⟨AH.lt_of_get S.ok (H b (List.mem_cons_of_mem _ cm)), .inr (List.mem_cons_of_mem _ cm)⟩
theorem Sep.HI (S : Sep c g h Γ) : Sep c g h (.ds [] :: Γ) := S.add _ S.ok (Nat.le_refl _) (fun _ _ => rfl) (fun r hr => by simp at hr) (by simp [Ob.bz]) (fun b hb => by simp [Ob.bz] at hb)
theorem HJ {α σ : Type} {P : Program} {w0 : World} {fv : Value} {ca : α → List Value} {l : List α} {d : List Nat} {B : LO → Nat → List Value → (Value → W) → W} {E : Nat → Value → W} {K : Nat → Option Code → W} (bM : σ → α → Option (σ × Fl)) (D : σ → AH → AH → List Ob → Prop) {s0 : σ} {r : σ × Fl}
 (It : qV P w0 g fv ca l)
 (hD : ∀ s g h Γ g' h', D s g h Γ → Sub g g' → D s g' h' Γ)
 (S : Sep c g h (.ds d :: Γ)) (D0 : D s0 g h Γ) (M : kv bM l s0 = some r)
 (body : ∀ (lo : LO) (n q : Nat) (s : σ) (x : α) (s' : σ) (f : Fl) (R : Value → W) (g2 h2 : AH) (Γ2 : List Ob), Sub g g2 → Sep c g2 h2 (.lp n lo .ready none :: .ds (q :: d) :: Γ2) → D s g2 h2 Γ2 → bM s x = some (s', f) →
  (∀ g3 h3 Γ3, Sub g2 g3 → Sep c g3 h3 (.lp n lo f.st f.pd :: .ds (q :: d) :: Γ3) → D s' g3 h3 Γ3 → R (.bool f.on) h3) → B lo n (ca x) R h2)
 (fin : ∀ (q : Nat) (g2 h2 : AH) (Γ2 : List Ob), Sub g g2 → Sep c g2 h2 (.ds (q :: d) :: Γ2) → D r.1 g2 h2 Γ2 → K q r.2.pd h2) : vd P w0 fv B E K h := by
 obtain ⟨_, id, first, bI, rfl, It⟩ := It
 show Nn P w0 id first bI B (E h.nx) (K h.nx) (h.dY (.defs false))
 intro lo hB
 have S1 : Sep c g (h.dY (.defs false)) (.ds (h.nx :: d) :: Γ) := by
  have H : ∀ x ∈ d, h.ob.get x = some (.defs false) := S.dN _ List.mem_cons_self
  have nd : d.Nodup := by have := S.nd; rw [List.flatMap_cons] at this; exact (List.nodup_append.1 this).1
  refine S.change _ (AH.yd S.ok _) (Nat.le_succ _) (fun f hf _ => (cU.dY h _).get f hf) (fun x hx => ?_) ?_ (fun b hb => ?_)
  · rcases List.mem_cons.1 hx with rfl | hx
    · rw [AH.qq, if_pos rfl]
    · have := AH.lt_of_get S.ok (H x hx)
      rw [AH.qq, if_neg (by omega)]; exact H x hx
  · exact List.nodup_cons.2 ⟨fun hm => by have := AH.lt_of_get S.ok (H _ hm); omega, nd⟩
  · rcases List.mem_cons.1 hb with rfl | hb
    · exact ⟨Nat.lt_succ_self _, .inl (Nat.le_refl _)⟩
    · exact ⟨Nat.lt_succ_of_lt (AH.lt_of_get S.ok (H b hb)), .inr hb⟩
 have S2 : Sep c g ((h.dY (.defs false)).dY (lo .ready none)) (.lp (h.dY (.defs false)).nx lo .ready none :: .ds (h.nx :: d) :: Γ) := by
  refine S1.add _ (AH.yd S1.ok _) (Nat.le_succ _) (cU.dY _ _).get ?_ (by simp [Ob.bz]) (fun b hb => by simp [Ob.bz] at hb; subst hb; exact ⟨Nat.lt_succ_self _, Nat.le_refl _⟩)
  show ((h.dY (.defs false)).dY (lo .ready none)).ob.get _ = _
  rw [AH.qq, if_pos rfl]
 have D2 : D s0 g ((h.dY (.defs false)).dY (lo .ready none)) Γ := hD s0 g h Γ g _ D0 (.refl g)
 generalize hn : (h.dY (.defs false)).nx = n at *
 generalize (h.dY (.defs false)).dY (lo .ready none) = h2 at *
 refine It _ (fun i g2 hh => ∃ s Γ2, Sub g g2 ∧ Sep c g2 hh (.lp n lo .ready none :: .ds (h.nx :: d) :: Γ2) ∧ D s g2 hh Γ2 ∧ kv bM (l.drop i) s = some r)
  (fun hh => ∃ g2 Γ2, Sub g g2 ∧ Sep c g2 hh (.lp n lo r.2.st r.2.pd :: .ds (h.nx :: d) :: Γ2) ∧ D r.1 g2 hh Γ2) _ g h2 (.refl g) ?_ ?_ ?_ ⟨s0, Γ, .refl _, S2, D2, by rw [List.drop_zero]; exact M⟩ ?_ ?_
 · rintro i g2 ha g3 hb ⟨s, Γ2, h1, h3, h4, h5⟩ S'
   exact ⟨s, Γ2, h1.trans S'.bQ, h3.call S', hD s g2 ha Γ2 g3 hb h4 S'.bQ, h5⟩
 · rintro i g2 ha ⟨s, Γ2, h1, h3, h4, h5⟩
   exact ⟨h3.sub, h3.ok⟩
 · rintro i x g2 ha E K' hx ⟨s, Γ2, h1, h3, h4, h5⟩ kt kf
   have hi : i < l.length := (List.getElem?_eq_some_iff.1 hx).1
   have hd : l.drop i = x :: l.drop (i + 1) := by
    rw [List.drop_eq_getElem_cons hi]; congr 1; rw [List.getElem?_eq_getElem hi] at hx; exact Option.some.inj hx
   rw [hd] at h5
   unfold kv at h5
   obtain ⟨⟨s', f⟩, h6, h7⟩ := bind_some h5
   refine WR.mono (fun rr hh hr => ?_) (hB n (ca x) K' ha (body lo n h.nx s x s' f K' g2 ha Γ2 h1 h3 h4 h6 fun g3 Ak Γ3 a1 a2 a3 => ?_))
   · cases rr with
     | ret v => exact hr
     | aQ v => exact hr.elim
   · cases f with
     | go => exact kt g3 _ a1 ⟨s', Γ3, h1.trans a1, a2, a3, h7⟩
     | ret => cases h7; exact kf _ ⟨g3, Γ3, h1.trans a1, a2, a3⟩
     | ex m => cases h7; exact kf _ ⟨g3, Γ3, h1.trans a1, a2, a3⟩
 · rintro v g2 hh sg ⟨s, Γ2, h1, h3, h4, h5⟩
   rw [List.drop_length] at h5
   cases h5
   refine ⟨.ready, none, h3.dN _ List.mem_cons_self, rfl, ?_⟩
   exact fin h.nx g2 _ Γ2 h1 (h3.HG .exhausted none).drop (hD _ g2 hh Γ2 g2 _ h4 (.refl _))
 · rintro v hh ⟨g2, Γ2, h1, h3, h4⟩
   refine ⟨r.2.st, r.2.pd, h3.dN _ List.mem_cons_self, by cases r.2 <;> rfl, ?_⟩
   exact fin h.nx g2 _ Γ2 h1 (h3.HG .exhausted r.2.pd).drop (hD _ g2 hh Γ2 g2 _ h4 (.refl _))
end
end
end Go.Ve
namespace Go.Ve
open Go.RowKit
section
variable {c : Cx} {g h g' h' : AH} {Γ : List Ob} {o : Ob}
theorem Sep.f1 {a0 a1 : Ob} (S : Sep c g h (a0 :: a1 :: Γ)) : Sep c g h (a1 :: a0 :: Γ) := S.front 1 rfl rfl
theorem Sep.f2 {a0 a1 a2 : Ob} (S : Sep c g h (a0 :: a1 :: a2 :: Γ)) : Sep c g h (a2 :: a0 :: a1 :: Γ) := S.front 2 rfl rfl
theorem Sep.f3 {a0 a1 a2 a3 : Ob} (S : Sep c g h (a0 :: a1 :: a2 :: a3 :: Γ)) : Sep c g h (a3 :: a0 :: a1 :: a2 :: Γ) := S.front 3 rfl rfl
theorem Sep.f4 {a0 a1 a2 a3 a4 : Ob} (S : Sep c g h (a0 :: a1 :: a2 :: a3 :: a4 :: Γ)) : Sep c g h (a4 :: a0 :: a1 :: a2 :: a3 :: Γ) := S.front 4 rfl rfl
theorem Sep.f5 {a0 a1 a2 a3 a4 a5 : Ob} (S : Sep c g h (a0 :: a1 :: a2 :: a3 :: a4 :: a5 :: Γ)) : Sep c g h (a5 :: a0 :: a1 :: a2 :: a3 :: a4 :: Γ) := S.front 5 rfl rfl
theorem Sep.f6 {a0 a1 a2 a3 a4 a5 a6 : Ob} (S : Sep c g h (a0 :: a1 :: a2 :: a3 :: a4 :: a5 :: a6 :: Γ)) : Sep c g h (a6 :: a0 :: a1 :: a2 :: a3 :: a4 :: a5 :: Γ) := S.front 6 rfl rfl
theorem Sep.f7 {a0 a1 a2 a3 a4 a5 a6 a7 : Ob} (S : Sep c g h (a0 :: a1 :: a2 :: a3 :: a4 :: a5 :: a6 :: a7 :: Γ)) : Sep c g h (a7 :: a0 :: a1 :: a2 :: a3 :: a4 :: a5 :: a6 :: Γ) := S.front 7 rfl rfl
theorem Sep.f8 {a0 a1 a2 a3 a4 a5 a6 a7 a8 : Ob} (S : Sep c g h (a0 :: a1 :: a2 :: a3 :: a4 :: a5 :: a6 :: a7 :: a8 :: Γ)) : Sep c g h (a8 :: a0 :: a1 :: a2 :: a3 :: a4 :: a5 :: a6 :: a7 :: Γ) := S.front 8 rfl rfl
theorem Sep.f9 {a0 a1 a2 a3 a4 a5 a6 a7 a8 a9 : Ob} (S : Sep c g h (a0 :: a1 :: a2 :: a3 :: a4 :: a5 :: a6 :: a7 :: a8 :: a9 :: Γ)) : Sep c g h (a9 :: a0 :: a1 :: a2 :: a3 :: a4 :: a5 :: a6 :: a7 :: a8 :: Γ) := S.front 9 rfl rfl
theorem Sep.f10 {a0 a1 a2 a3 a4 a5 a6 a7 a8 a9 XD : Ob} (S : Sep c g h (a0 :: a1 :: a2 :: a3 :: a4 :: a5 :: a6 :: a7 :: a8 :: a9 :: XD :: Γ)) : Sep c g h (XD :: a0 :: a1 :: a2 :: a3 :: a4 :: a5 :: a6 :: a7 :: a8 :: a9 :: Γ) := S.front 10 rfl rfl
theorem Sep.t0 (S : Sep c g h Γ) : Sep c g h [] := S.bJ
theorem Sep.t1 {a0 : Ob} (S : Sep c g h (a0 :: Γ)) : Sep c g h [a0] := S.take 1
theorem Sep.t2 {a0 a1 : Ob} (S : Sep c g h (a0 :: a1 :: Γ)) : Sep c g h [a0, a1] := S.take 2
theorem Sep.t3 {a0 a1 a2 : Ob} (S : Sep c g h (a0 :: a1 :: a2 :: Γ)) : Sep c g h [a0, a1, a2] := S.take 3
theorem Sep.t4 {a0 a1 a2 a3 : Ob} (S : Sep c g h (a0 :: a1 :: a2 :: a3 :: Γ)) : Sep c g h [a0, a1, a2, a3] := S.take 4
theorem Sep.t5 {a0 a1 a2 a3 a4 : Ob} (S : Sep c g h (a0 :: a1 :: a2 :: a3 :: a4 :: Γ)) : Sep c g h [a0, a1, a2, a3, a4] := S.take 5
theorem Sep.t6 {a0 a1 a2 a3 a4 a5 : Ob} (S : Sep c g h (a0 :: a1 :: a2 :: a3 :: a4 :: a5 :: Γ)) : Sep c g h [a0, a1, a2, a3, a4, a5] := S.take 6
theorem Sep.t8 {a0 a1 a2 a3 a4 a5 a6 a7 : Ob} (S : Sep c g h (a0 :: a1 :: a2 :: a3 :: a4 :: a5 :: a6 :: a7 :: Γ)) : Sep c g h [a0, a1, a2, a3, a4, a5, a6, a7] := S.take 8
theorem Sep.t10 {a0 a1 a2 a3 a4 a5 a6 a7 a8 a9 : Ob} (S : Sep c g h (a0 :: a1 :: a2 :: a3 :: a4 :: a5 :: a6 :: a7 :: a8 :: a9 :: Γ)) : Sep c g h [a0, a1, a2, a3, a4, a5, a6, a7, a8, a9] := S.take 10
theorem Sep.ni (S : Sep c g h Γ) (S1 : Sep ⟨g, h, []⟩ g' h' []) : Sep c g' h' Γ := S.call S1
theorem Sep.ag9 (S : Sep c g h Γ) (S1 : Sep ⟨g, h, []⟩ g' h' [o]) : Sep c g' h' (o :: Γ) := S.call S1
end
end Go.Ve
namespace Go.Ve
open Go.RowKit
open Classical
noncomputable section
def gw (l : List Int) : Prop := l.Pairwise (· < ·)
def jZ (x : Int) : List Int → List Int
 | [] => [x]
 | y :: l => bif decide (x < y) then x :: y :: l else bif decide (x = y) then y :: l else y :: jZ x l
theorem wD {x z : Int} : ∀ {l : List Int}, z ∈ jZ x l ↔ z = x ∨ z ∈ l
 | [] => by simp [jZ]
 | y :: l => by
  unfold jZ
  by_cases h1 : x < y
  · rw [decide_eq_true h1]; simp
  · rw [decide_eq_false h1]
    by_cases h2 : x = y
    · rw [decide_eq_true h2]; subst h2; simp
    · rw [decide_eq_false h2]
      show z ∈ y :: jZ x l ↔ _
      rw [List.mem_cons, wD, List.mem_cons]
      constructor
      · rintro (h | h | h) <;> simp [h]
      · rintro (h | h | h) <;> simp [h]
theorem wE {x : Int} : ∀ {l : List Int}, gw l → gw (jZ x l)
 | [], _ => by simp [jZ, gw]
 | y :: l, h => by
  have h' := List.pairwise_cons.1 h
  unfold jZ
  by_cases h1 : x < y
  · rw [decide_eq_true h1]
    exact List.pairwise_cons.2 ⟨fun z hz => by
     rcases List.mem_cons.1 hz with rfl | hz
     · exact h1
     · exact Int.lt_trans h1 (h'.1 z hz), h⟩
  · rw [decide_eq_false h1]
    by_cases h2 : x = y
    · rw [decide_eq_true h2]; exact h
    · rw [decide_eq_false h2]
      exact List.pairwise_cons.2 ⟨fun z hz => by
       rcases wD.1 hz with rfl | hz
       · omega
       · exact h'.1 z hz, wE h'.2⟩
theorem gw.nd {l : List Int} (h : gw l) : l.Nodup := h.imp fun h => by omega
theorem gw.ext : ∀ {l m : List Int}, gw l → gw m → (∀ x, x ∈ l ↔ x ∈ m) → l = m
 | [], [], _, _, _ => rfl
 | [], y :: m, _, _, h => absurd ((h y).2 List.mem_cons_self) (by simp)
 | x :: l, [], _, _, h => absurd ((h x).1 List.mem_cons_self) (by simp)
 | x :: l, y :: m, hl, hm, h => by
  have fR := List.pairwise_cons.1 hl
  have nM := List.pairwise_cons.1 hm
  have e : x = y := by
   rcases List.mem_cons.1 ((h x).1 List.mem_cons_self) with e | hx
   · exact e
   · rcases List.mem_cons.1 ((h y).2 List.mem_cons_self) with e | hy
     · exact e.symm
     · have := nM.1 x hx; have := fR.1 y hy; omega
  subst e
  refine congrArg (x :: ·) (gw.ext fR.2 nM.2 fun z => ⟨fun hz => ?_, fun hz => ?_⟩)
  · rcases List.mem_cons.1 ((h z).1 (List.mem_cons_of_mem _ hz)) with rfl | l8
    · have := fR.1 z hz; omega
    · exact l8
  · rcases List.mem_cons.1 ((h z).2 (List.mem_cons_of_mem _ hz)) with rfl | l8
    · have := nM.1 z hz; omega
    · exact l8
theorem aha {x : Int} {l : List Int} (h : gw l) (hx : x ∈ l) : jZ x l = l := gw.ext (wE h) h fun z => by
 rw [wD]; exact ⟨fun hz => hz.elim (fun e => e ▸ hx) id, .inr⟩
theorem ahb {l m : List Int} (hl : l.Nodup) (hm : m.Nodup) (h : ∀ x, x ∈ l ↔ x ∈ m) : l.Perm m := (List.perm_ext_iff_of_nodup hl hm).2 h
theorem ahc {x : Int} {l : List Int} (h : gw l) (hx : x ∉ l) : (jZ x l).Perm (x :: l) := ahb (wE h).nd (List.nodup_cons.2 ⟨hx, h.nd⟩) fun z => by rw [wD, List.mem_cons]
structure fb (es : List (Value × Value × Nat)) (cl : Nat) (l : List Int) : Prop where
 ks : ∃ ks : List Int, ks.Perm l ∧ es.map (fun e => (e.1, e.2.1)) = ks.map fun k => (vi k, Value.bool true)
 oe : gw l
 st : (es.map fun e => e.2.2).Nodup
 lt : ∀ e ∈ es, e.2.2 < cl
theorem fb.nil : fb [] 0 [] := ⟨⟨[], .refl _, rfl⟩, .nil, .nil, fun e h => by simp at h⟩
theorem ahd (x y : Int) : kR 0 (vi x) (vi y) = some (decide (x = y)) := by
 rw [← yc]; rfl
theorem XE {x : Int} : ∀ {es : List (Value × Value × Nat)} {ks : List Int} {cl : Nat}, es.map (fun e => (e.1, e.2.1)) = ks.map (fun k => (vi k, Value.bool true)) →
 (x ∈ ks → ∀ k, nI 0 es (vi x) (.bool true) cl k = k es cl) ∧ (x ∉ ks → ∀ k, nI 0 es (vi x) (.bool true) cl k = k (es ++ [(vi x, .bool true, cl)]) (cl + 1))
 | [], [], cl, _ => ⟨fun h => by simp at h, fun _ k => by show fN (Nat.succ cl) _ = _; rw [bO]; rfl⟩
 | [], _ :: _, _, h => by simp at h
 | _ :: _, [], _, h => by simp at h
 | (a, v, n) :: es, b :: ks, cl, h => by
  simp only [List.map_cons, List.cons.injEq, Prod.mk.injEq] at h
  obtain ⟨⟨rfl, rfl⟩, ht⟩ := h
  have he : ∀ k, nI 0 ((vi b, .bool true, n) :: es) (vi x) (.bool true) cl k = bif decide (x = b) then k ((vi x, .bool true, n) :: es) cl else nI 0 es (vi x) (.bool true) cl (fun cq iP => k ((vi b, .bool true, n) :: cq) iP) := fun k => by
   show (match kR 0 (vi x) (vi b) with | some true => k ((vi x, .bool true, n) :: es) cl | some false => nI 0 es (vi x) (.bool true) cl (fun cq iP => k ((vi b, .bool true, n) :: cq) iP) | none => false) = _
   rw [ahd]
   cases decide (x = b) <;> rfl
  obtain ⟨h1, h2⟩ := XE (x := x) (cl := cl) ht
  by_cases hx : x = b
  · subst hx
    refine ⟨fun _ k => by rw [he, decide_eq_true rfl]; rfl, fun hn => absurd List.mem_cons_self hn⟩
  · refine ⟨fun hm k => ?_, fun hn k => ?_⟩
    · rw [he, decide_eq_false hx]; exact h1 ((List.mem_cons.1 hm).resolve_left hx) _
    · rw [he, decide_eq_false hx]; exact h2 (fun h => hn (List.mem_cons_of_mem _ h)) _
theorem fb.iL {es : List (Value × Value × Nat)} {cl : Nat} {l : List Int} (H : fb es cl l) (x : Int) : ∃ cq iP, fb cq iP (jZ x l) ∧ ∀ k, nI 0 es (vi x) (.bool true) cl k = k cq iP := by
 obtain ⟨ks, h1, h2⟩ := H.ks
 obtain ⟨u1, u2⟩ := XE (x := x) (cl := cl) h2
 by_cases hx : x ∈ ks
 · refine ⟨es, cl, ?_, u1 hx⟩
   rw [aha H.oe (h1.mem_iff.1 hx)]
   exact H
 · refine ⟨_, _, ⟨⟨ks ++ [x], ?_, by simp [h2]⟩, wE H.oe, ?_, fun e he => ?_⟩, u2 hx⟩
   · exact (List.perm_append_comm.trans (List.Perm.cons x h1)).trans (ahc H.oe fun h => hx (h1.mem_iff.2 h)).symm
   · rw [List.map_append]
     refine List.nodup_append.2 ⟨H.st, by simp, fun a ha b hb => ?_⟩
     obtain ⟨e, he, rfl⟩ := List.mem_map.1 ha
     simp at hb
     have := H.lt e he
     omega
   · rcases List.mem_append.1 he with he | he
     · have := H.lt e he; omega
     · simp at he; subst he; exact Nat.lt_succ_self _
def sC (g : AH) (v : Value) (l : List Int) : Prop := (v = .map none ∧ l = []) ∨ ∃ b es cl, v = .map (some b) ∧ g.ob.get b = some (.map es cl) ∧ fb es cl l
theorem sC.mono {g g' : AH} {v : Value} {l : List Int} (H : sC g v l) (S : Sub g g') : sC g' v l := by
 rcases H with h | ⟨b, es, cl, h1, h2, h3⟩
 · exact .inl h
 · exact .inr ⟨b, es, cl, h1, S.get _ _ h2, h3⟩
theorem sC.oe {g : AH} {v : Value} {l : List Int} (H : sC g v l) : gw l := by
 rcases H with ⟨_, rfl⟩ | ⟨b, es, cl, _, _, h⟩
 · exact .nil
 · exact h.oe
section
variable {c : Cx} {g h : AH} {Γ : List Ob} {R : Value → AH → Prop} {b cl : Nat} {es : List (Value × Value × Nat)} {l : List Int}
theorem Hv {r : Nat} (hr : h.ob.get r = some (.map es cl)) (k : List (Value × Value × Nat) → Nat → Bool) : jS h r k = k es cl := by
 unfold jS; rw [tM hr]
theorem OM {it : Nat} {m : Option Nat} {since last : Nat} {seen : List Nat} (hi : h.ob.get it = some (.eQ m since seen last)) (k : Option Nat → Nat → List Nat → Nat → Bool) : tw h it k = k m since seen last := by
 unfold tw; rw [tM hi]
theorem Sep.smk (S : Sep c g h Γ) (K : ∀ b h', Sep c g h' (.mp b [] 0 :: Γ) → fb [] 0 [] → R (.map (some b)) h') : WP .mkMap [] h R :=
 afd.2 (K _ _ (S.add _ (AH.yd S.ok _) (Nat.le_succ _) (cU.dY h _).get (by show (h.dY _).ob.get h.nx = _; rw [AH.qq, if_pos rfl]) (by simp [Ob.bz]) (fun b hb => by simp [Ob.bz] at hb; subst hb; exact ⟨Nat.lt_succ_self _, Nat.le_refl _⟩)) fb.nil)
theorem Sep.ON {x : Int} (S : Sep c g h (.mp b es cl :: Γ)) (A : fb es cl l) (K : ∀ cq iP h', Sep c g h' (.mp b cq iP :: Γ) → fb cq iP (jZ x l) → R undef h') : WP (.oB 0) [.map (some b), vi x, .bool true] h R := by
 have hb : h.ob.get b = some (.map es cl) := S.dN _ List.mem_cons_self
 have hn := AH.lt_of_get S.ok hb
 obtain ⟨cq, iP, h1, h2⟩ := A.iL x
 have key : ∀ k : KV, (Prim.oB 0).ev [.map (some b), vi x, .bool true] h k = k undef (h.lL b (.map cq iP)) := fun k => by
  show iff (Aa 0 (vi x)) (jS h b fun es cl => nI 0 es (vi x) (.bool true) cl fun es cl => fP h b (some (.map es cl)) fun h => k undef h) = _
  rw [Hv hb, h2, ye]; rfl
 refine (cC key).2 (K cq iP _ ?_ h1)
 refine S.change _ (AH.Gt S.ok hn _) (Nat.le_refl _) (fun f _ hf => ?_) ?_ (by simp [Ob.bz]) (fun b' cm => by simp [Ob.bz] at cm; subst cm; exact ⟨hn, .inr (by simp [Ob.bz])⟩)
 · rw [AH.sh, if_neg (by simpa [Ob.bz] using hf)]
 · show (h.lL b (.map cq iP)).ob.get b = _
   rw [AH.sh, if_pos rfl]
theorem Sep.ahe (S : Sep c g h (.mp b es cl :: Γ)) (A : fb es cl l) : ∃ g', Sub g g' ∧ Sep c g' h Γ ∧ sC g' (.map (some b)) l := by
 obtain ⟨h1, h2, h3⟩ := S.freeze (b := b) rfl
 exact ⟨_, h1, h2, .inr ⟨b, es, cl, rfl, h3.trans (S.dN _ List.mem_cons_self), A⟩⟩
end
section
variable {c : Cx} {g h : AH} {Γ : List Ob}
theorem Sep.ahf {α : Type} {rep : gi α} {ty : TypeId} {sz : Nat} {v : Value} {ls : List (List Value)} {l : List α} (S : Sep c g h (.sl ty sz v ls :: Γ)) (A : aM (rep g) ls l) (hm : wB rep) :
    ∃ g', Sub g g' ∧ Sub g' h ∧ ae rep sz g' v l ∧ ∀ g2 h2, Sep ⟨g', h, []⟩ g2 h2 [] → Sep c g h2 (.sl ty sz v ls :: Γ) := by
  have O : dV h ty sz v ls := S.dN _ List.mem_cons_self
  obtain ⟨g', sg, S1, ahg, F⟩ : ∃ g', Sub g g' ∧ Sep c g' h Γ ∧ (∀ b ∈ ec v, ∃ x, g'.ob.get b = some x ∧ h.ob.get b = some x) ∧ ae rep sz g' v l := by
    cases O with
    | nil => exact ⟨g, .refl g, S.drop, fun b hb => by simp [ec] at hb, ⟨[], .nil, A⟩⟩
    | un b o n lo hi cc _ hn hb hg h1 h2 hr hs =>
      obtain ⟨k1, k2, k3⟩ := S.freeze (b := b) rfl
      exact ⟨_, k1, k2, fun b' cm => by
        have cm : b' = b := by simpa [ec] using cm
        subst cm
        exact ⟨_, k3.trans hg, hg⟩, ⟨ls, .mk b o n _ ls hn ⟨hb, .inr rfl⟩ hs (wC k3 hr), A.mono fun x y hh => hm _ _ _ _ k1 hh⟩⟩
    | kn b o n cap lo hi cf cc _ hn hb hc hg h1 h2 hr hs =>
      obtain ⟨k1, k2, k3⟩ := S.freeze (b := b) rfl
      exact ⟨_, k1, k2, fun b' cm => by
        have cm : b' = b := by simpa [ec] using cm
        subst cm
        exact ⟨_, k3.trans hg, hg⟩, ⟨ls, .mk b o n cap ls hn ⟨by omega, .inl ⟨hb, hc⟩⟩ hs (wC k3 hr), A.mono fun x y hh => hm _ _ _ _ k1 hh⟩⟩
  refine ⟨g', sg, S1.sub, F, fun g2 h2 S2 => ?_⟩
  have S3 := S1.eo S2
  refine ⟨S.bQ, sg.trans S3.sub, S3.ok, S3.nx, fun f h1 h2 => ⟨(S3.old f h1 h2).1, (S.old f h1 h2).2⟩, fun o ho => ?_, S.nd, fun b hb => ⟨Nat.lt_of_lt_of_le (S.own b hb).1 S2.nx, (S.own b hb).2⟩⟩
  rcases List.mem_cons.1 ho with rfl | ho
  · exact dV.Ck O fun b hb => by
      obtain ⟨x, h1, h2⟩ := ahg b hb
      rw [h2]; exact S3.sub.get _ _ h1
  · exact S3.dN o ho
end
theorem XF : ∀ (l : List Nat) (n : Nat) (k : List Nat → Bool), A7 l n k = k (l ++ [n])
 | [], _, _ => rfl
 | x :: l, n, k => XF l n fun l' => k (x :: l')
theorem OO {since : Nat} {seen : List Nat} : ∀ {es : List (Value × Value × Nat)} {k : List (Value × Value × Nat) → Bool}, (∀ e ∈ es, e.2.2 < since) → rX es since seen k = k (es.filter fun e => !decide (e.2.2 ∈ seen))
 | [], _, _ => rfl
 | e :: es, k, h => by
  have h1 : Nat.ble (Nat.succ e.2.2) since = true := Nat.ble_eq_true_of_le (h e List.mem_cons_self)
  have h2 : qd seen e.2.2 = decide (e.2.2 ∈ seen) := by rw [MJ]; simp
  show iff (Nat.ble (Nat.succ e.2.2) since) (bif qd seen e.2.2 then rX es since seen k else rX es since seen fun l => k (e :: l)) = _
  rw [h1, h2]
  by_cases hm : e.2.2 ∈ seen
  · rw [decide_eq_true hm, List.filter_cons, decide_eq_true hm]
    exact OO fun e he => h e (List.mem_cons_of_mem _ he)
  · rw [decide_eq_false hm, List.filter_cons, decide_eq_false hm]
    exact OO fun e he => h e (List.mem_cons_of_mem _ he)
theorem XG {go : Value → Value → Nat → Bool} : ∀ {l : List (Value × Value × Nat)}, (∀ e ∈ l, go e.1 e.2.1 e.2.2 = true) → tx go l = true
 | [], _ => rfl
 | [(a, v, n)], h => h (a, v, n) List.mem_cons_self
 | (a, v, n) :: e :: l, h => by
  show iff (go a v n) (tx go (e :: l)) = true
  rw [iff_eq]
  exact ⟨h (a, v, n) List.mem_cons_self, XG fun e he => h e (List.mem_cons_of_mem _ he)⟩
theorem XH : ∀ (l : List Nat) (n : Nat) (k : Nat → Bool), vI (l ++ [n]) k = k n
 | [], _, _ => rfl
 | [x], _, _ => rfl
 | x :: y :: l, n, k => XH (y :: l) n k
theorem XI {a v : Value} {n : Nat} {k : Value → Value → Bool} : ∀ {es : List (Value × Value × Nat)}, (a, v, n) ∈ es → (es.map fun e => e.2.2).Nodup → tz es n k = k a v
  | (a', v', n') :: es, hm, nd => by
    have nn := List.nodup_cons.1 nd
    show (bif Nat.beq n' n then k a' v' else tz es n k) = _
    rcases List.mem_cons.1 hm with e | hm
    · cases e
      rw [Nat.beq_refl]; rfl
    · have : Nat.beq n' n = false := by
        cases hb : Nat.beq n' n with
        | false => rfl
        | true =>
          have e := Nat.eq_of_beq_eq_true hb
          subst e
          exact absurd (List.mem_map.2 ⟨_, hm, rfl⟩) nn.1
      rw [this]
      exact XI hm nn.2
section
variable {h : AH} {R : Value → AH → Prop} {it r cl : Nat} {es : List (Value × Value × Nat)} {seen : List Nat}
theorem XJ (fF : h.ob.get it = some (.eQ (some r) cl seen cl)) (hr : h.ob.get r = some (.map es cl)) (hl : ∀ e ∈ es, e.2.2 < cl)
 (K1 : ∀ e ∈ es, e.2.2 ∉ seen → R (.tuple ⟨[.bool true, e.1, e.2.1]⟩) (h.lL it (.eQ (some r) cl (seen ++ [e.2.2]) cl)))
 (K0 : (∀ e ∈ es, e.2.2 ∈ seen) → R (.tuple ⟨[.bool false]⟩) (h.kill it)) : WP (.x .zP) [al it 0] h R := by
 intro k hk
 show tw h it (fun m since seen last => Option.casesOn (motive := fun _ => Bool) m (k (.tuple ⟨[.bool false]⟩) h) fun r =>
  jS h r fun es cl => iff (Nat.beq cl since && Nat.beq last since) (rX es since seen (FA h it r since seen k))) = true
 rw [OM fF]
 show jS h r (fun es iP => iff (Nat.beq iP cl && Nat.beq cl cl) (rX es cl seen (FA h it r cl seen k))) = true
 rw [Hv hr, Nat.beq_refl, OO hl]
 show FA h it r cl seen k _ = true
 have hm : ∀ e, e ∈ es.filter (fun e => !decide (e.2.2 ∈ seen)) ↔ e ∈ es ∧ e.2.2 ∉ seen := fun e => by simp
 generalize es.filter (fun e => !decide (e.2.2 ∈ seen)) = l at hm
 cases l with
 | nil =>
  show fP h it none (fun h => k (.tuple ⟨[.bool false]⟩) h) = true
  rw [V0]
  exact hk _ _ (K0 fun e he => Classical.byContradiction fun hn => by simpa using (hm e).2 ⟨he, hn⟩)
 | cons e0 l0 =>
  show tx (Fz h it r cl seen k) (e0 :: l0) = true
  refine XG fun e he => ?_
  obtain ⟨h1, h2⟩ := (hm e).1 he
  unfold Fz
  rw [XF, ye]
  exact hk _ _ (K1 e h1 h2)
theorem ahh {n : Nat} {a v : Value} (fF : h.ob.get it = some (.eQ (some r) cl (seen ++ [n]) cl)) (hr : h.ob.get r = some (.map es cl)) (he : (a, v, n) ∈ es) (nd : (es.map fun e => e.2.2).Nodup) (K : R (.tuple ⟨[a, v]⟩) h) :
 WP (.x .entry) [al it 0] h R := by
 refine (cC (R := R) (h := h) (h' := h) (v := .tuple ⟨[a, v]⟩) fun k => ?_).2 K
 show tw h it (fun m _ seen last => Option.casesOn (motive := fun _ => Bool) m false fun r =>
  jS h r fun es cl => iff (Nat.beq cl last) (vI seen fun n => tz es n fun a v => k (.tuple ⟨[a, v]⟩) h)) = _
 rw [OM fF]
 show jS h r (fun es iP => iff (Nat.beq iP cl) (vI (seen ++ [n]) fun n => tz es n fun a v => k (.tuple ⟨[a, v]⟩) h)) = _
 rw [Hv hr, Nat.beq_refl, XH, XI he nd]
 rfl
end
def sD (e : Value × Value × Nat) : Int := match e.1 with
 | .int _ n => n
 | _ => 0
theorem fb.keys {es : List (Value × Value × Nat)} {cl : Nat} {l : List Int} (H : fb es cl l) : (es.map sD).Perm l ∧ ∀ e ∈ es, e.1 = vi (sD e) ∧ e.2.1 = .bool true := by
 obtain ⟨ks, h1, h2⟩ := H.ks
 have e1 : es.map sD = ks := by
  have : (es.map (fun e => (e.1, e.2.1))).map (fun p => match p.1 with | .int _ n => n | _ => (0 : Int)) = ks := by
   rw [h2, List.map_map]
   exact List.map_id' ks
  rw [List.map_map] at this
  exact this
 refine ⟨by rw [e1]; exact h1, fun e he => ?_⟩
 have hm : (e.1, e.2.1) ∈ ks.map fun k => (vi k, Value.bool true) := by rw [← h2]; exact List.mem_map.2 ⟨e, he, rfl⟩
 obtain ⟨k, _, hk⟩ := List.mem_map.1 hm
 obtain ⟨k1, k2⟩ := Prod.mk.inj hk
 unfold sD
 rw [← k1]
 exact ⟨rfl, k2.symm⟩
theorem OP {α β : Type} {f : α → β} : ∀ {l : List α}, (l.map f).Nodup → ∀ x ∈ l, ∀ y ∈ l, f x = f y → x = y
 | a :: l, nd, x, hx, y, hy, e => by
  have nn := List.nodup_cons.1 nd
  rcases List.mem_cons.1 hx with h1 | hx <;> rcases List.mem_cons.1 hy with h2 | hy
  · rw [h1, h2]
  · exact absurd (List.mem_map.2 ⟨y, hy, by rw [← e, h1]⟩) nn.1
  · exact absurd (List.mem_map.2 ⟨x, hx, by rw [e, h2]⟩) nn.1
  · exact OP nn.2 x hx y hy e
theorem XK {α : Type} {l m : List α} (hl : l.Nodup) (hm : m.Nodup) (h : ∀ x ∈ l, x ∈ m) : (l ++ m.filter fun x => !decide (x ∈ l)).Perm m := by
 refine (List.perm_ext_iff_of_nodup (List.nodup_append.2 ⟨hl, hm.filter _, fun a ha b hb e => ?_⟩) hm).2 fun x => ?_
 · subst e; simp [ha] at hb
 · rw [List.mem_append, List.mem_filter]
   by_cases hx : x ∈ l
   · simp [hx, h x hx]
   · simp [hx]
theorem ahi {α : Type} {l m : List α} (hl : l.Nodup) (hm : m.Nodup) (h : ∀ x ∈ l, x ∈ m) (hn : m.length ≤ l.length) : l.Perm m := by
 have p := XK hl hm h
 have e := p.length_eq
 rw [List.length_append] at e
 have : (m.filter fun x => !decide (x ∈ l)) = [] := List.length_eq_zero_iff.1 (by omega)
 rwa [this, List.append_nil] at p
theorem OQ {α : Type} {l m : List α} (hl : l.Nodup) (hm : m.Nodup) (h : ∀ x ∈ l, x ∈ m) : l.length ≤ m.length := by
 have := (XK hl hm h).length_eq
 rw [List.length_append] at this
 omega
theorem OS {α β : Type} {f : α → β} : ∀ {l : List α}, (l.map f).Nodup → l.Nodup
 | [], _ => .nil
 | a :: l, nd => by
  have nn := List.nodup_cons.1 nd
  exact List.nodup_cons.2 ⟨fun h => nn.1 (List.mem_map.2 ⟨a, h, rfl⟩), OS nn.2⟩
section
variable {c : Cx} {g h : AH} {Γ : List Ob}
theorem Sep.unit {b : Nat} {a : AO} (S : Sep c g h (.raw b a :: Γ)) : Sep c g (h.kill b) Γ := by
 have hb : h.ob.get b = some a := S.dN _ List.mem_cons_self
 refine (S.change (.ds []) (AH.VZ S.ok b) (Nat.le_refl _) (fun f _ hf => ?_) (fun r hr => by simp at hr) (by simp [Ob.bz]) (fun b hb => by simp [Ob.bz] at hb)).drop
 rw [AH.Nv, if_neg (by simpa [Ob.bz] using hf)]
theorem Sep.ahj {b : Nat} {a : AO} (S : Sep c g h (.raw b a :: Γ)) (a' : AO) : Sep c g (h.lL b a') (.raw b a' :: Γ) := by
 have hb : h.ob.get b = some a := S.dN _ List.mem_cons_self
 have hn := AH.lt_of_get S.ok hb
 refine S.change _ (AH.Gt S.ok hn _) (Nat.le_refl _) (fun f _ hf => ?_) ?_ (by simp [Ob.bz]) (fun b' cm => by simp [Ob.bz] at cm; subst cm; exact ⟨hn, .inr (by simp [Ob.bz])⟩)
 · rw [AH.sh, if_neg (by simpa [Ob.bz] using hf)]
 · show (h.lL b a').ob.get b = _
   rw [AH.sh, if_pos rfl]
theorem Sep.range {α : Type} {l : List Int} {v : Value} (S : Sep c g h Γ) (M : sC g v l) {F : Value → (α → W) → α → W} {B : Value → (α → W) → α → W} {X : Value → α → W}
    (hF : ∀ it k a, F it k a = pr (.x .zP) [it] fun t => pr (.extract 0) [t] fun c => br c (B it k a) (X it a)) {a0 : α} (I : List Int → α → AH → List Ob → Prop) (h0 : I [] a0 g Γ)
    (step : ∀ (it : Value) (o : Ob) (k : α → W) (a : α) (g1 h1 : AH) (Γ1 : List Ob) (xs : List Int) (x : Int), I xs a g1 Γ1 → Sub g g1 → x ∈ l → x ∉ xs → Sep c g1 h1 (o :: Γ1) → (∀ R : Value → AH → Prop, R (.tuple ⟨[vi x, .bool true]⟩) h1 → WP (.x .entry) [it] h1 R) →
      (∀ a' g2 h2 Γ2, Sub g1 g2 → Sep c g2 h2 (o :: Γ2) → I (xs ++ [x]) a' g2 Γ2 → k a' h2) → B it k a h1)
    (fin : ∀ it a g1 h1 Γ1 xs, Sub g g1 → xs.Perm l → I xs a g1 Γ1 → Sep c g1 h1 Γ1 → X it a h1) : WP (.x .JB) [v] h fun it h => LP (F it) a0 h := by
  rcases M with ⟨rfl, rfl⟩ | ⟨r, es, cl, rfl, hr, A⟩
  · refine (cC (h := h) (h' := h.dY (.eQ none 0 [] 0)) (v := al h.nx 0) fun k => ?_).2 ⟨1, ?_⟩
    · show kY h (.eQ none 0 [] 0) (fun b h => k (al b 0) h) = _
      rw [BC]
    · show F (al h.nx 0) (jX (F (al h.nx 0)) 0) a0 _
      rw [hF]
      have fF : (h.dY (.eQ none 0 [] 0)).ob.get h.nx = some (.eQ none 0 [] 0) := by rw [AH.qq, if_pos rfl]
      refine (cC (h := h.dY (.eQ none 0 [] 0)) (h' := h.dY (.eQ none 0 [] 0)) (v := .tuple ⟨[.bool false]⟩) fun k => ?_).2 ((gT (v := .bool false) rfl).2 (show X (al h.nx 0) a0 (h.dY (.eQ none 0 [] 0)) from fin _ a0 g _ Γ [] (.refl g) (.refl _) h0 (S.cj (cU.dY h _) (AH.yd S.ok _))))
      show tw (h.dY (.eQ none 0 [] 0)) h.nx _ = _
      rw [OM fF]
  · have hrh : h.ob.get r = some (.map es cl) := S.sub.get _ _ hr
    have Hw := A.keys
    have knd : (es.map sD).Nodup := Hw.1.nodup_iff.2 A.oe.nd
    refine (cC (h := h) (h' := h.dY (.eQ (some r) cl [] cl)) (v := al h.nx 0) fun k => ?_).2 ⟨es.length + 1, ?_⟩
    · show jS h r (fun _ cl => kY h (.eQ (some r) cl [] cl) fun b h => k (al b 0) h) = _
      rw [Hv hrh, BC]
    · have S1 : Sep c g (h.dY (.eQ (some r) cl [] cl)) (.raw h.nx (.eQ (some r) cl [] cl) :: Γ) :=
        S.add _ (AH.yd S.ok _) (Nat.le_succ _) (cU.dY h _).get (by show (h.dY _).ob.get h.nx = _; rw [AH.qq, if_pos rfl]) (by simp [Ob.bz]) (fun b hb => by simp [Ob.bz] at hb; subst hb; exact ⟨Nat.lt_succ_self _, Nat.le_refl _⟩)
      generalize h.nx = it at S1
      have key : ∀ (m : Nat) (np : List (Value × Value × Nat)) (a : α) (g1 h1 : AH) (Γ1 : List Ob), np.length + m = es.length → np.Nodup → (∀ e ∈ np, e ∈ es) → Sub g g1 → I (np.map sD) a g1 Γ1 →
          Sep c g1 h1 (.raw it (.eQ (some r) cl (np.map fun e => e.2.2) cl) :: Γ1) → jX (F (al it 0)) (m + 1) a h1 := by
        intro m
        induction m with
        | zero =>
          intro np a g1 h1 Γ1 hlen Hx ah sg hI S1
          show F (al it 0) _ a h1
          rw [hF]
          have vp : np.Perm es := ahi Hx (OS A.st) ah (by omega)
          refine XJ (S1.dN _ List.mem_cons_self) (S1.sub.get _ _ (sg.get _ _ hr)) A.lt (fun e he hs => absurd (List.mem_map.2 ⟨e, vp.mem_iff.2 he, rfl⟩) hs) fun eO => (gT rfl).2 ?_
          exact fin _ a g1 _ Γ1 _ sg ((vp.map sD).trans Hw.1) hI S1.unit
        | succ m ih =>
          intro np a g1 h1 Γ1 hlen Hx ah sg hI S1
          show F (al it 0) _ a h1
          rw [hF]
          refine XJ (S1.dN _ List.mem_cons_self) (S1.sub.get _ _ (sg.get _ _ hr)) A.lt (fun e he hs => (gT rfl).2 ?_) fun eO => (gT rfl).2 ?_
          · have XL := Hw.2 e he
            have XM : e ∉ np := fun h => hs (List.mem_map.2 ⟨e, h, rfl⟩)
            have S2 := S1.ahj (.eQ (some r) cl ((np.map fun e => e.2.2) ++ [e.2.2]) cl)
            show B (al it 0) _ a _
            refine step _ _ _ a g1 _ Γ1 (np.map sD) (sD e) hI sg (Hw.1.mem_iff.1 (List.mem_map.2 ⟨e, he, rfl⟩)) (fun h => ?_) S2 (fun R hR => ?_) (fun a' g2 h2 Γ2 Hy S3 hI2 => ?_)
            · obtain ⟨e', XN, he2⟩ := List.mem_map.1 h
              exact XM (OP knd e' (ah e' XN) e he he2 ▸ XN)
            · refine ahh (a := e.1) (v := e.2.1) (n := e.2.2) (S2.dN _ List.mem_cons_self) (S2.sub.get _ _ (sg.get _ _ hr)) he A.st ?_
              rw [XL.1, XL.2]; exact hR
            · refine ih (np ++ [e]) a' g2 h2 Γ2 (by rw [List.length_append]; simp; omega) ?_ ?_ (sg.trans Hy) (by rw [List.map_append]; exact hI2) (by rw [List.map_append]; exact S3)
              · exact List.nodup_append.2 ⟨Hx, by simp, fun x hx y hy e' => by simp at hy; subst hy; subst e'; exact XM hx⟩
              · intro x hx
                rcases List.mem_append.1 hx with hx | hx
                · exact ah x hx
                · simp at hx; subst hx; exact he
          · have hes : ∀ e ∈ es, e ∈ np := fun e he => by
              obtain ⟨e', h1, h2⟩ := List.mem_map.1 (eO e he)
              exact OP A.st e' (ah e' h1) e he h2 ▸ h1
            have := OQ (OS A.st) Hx hes
            omega
      exact key es.length [] a0 g _ Γ (by simp) .nil (fun e he => by simp at he) (.refl g) h0 S1
end
end
end Go.Ve
namespace Go.Ve.T
open Go.Ve Go.Proofs
noncomputable section
set_option maxRecDepth 10000
structure aq where
 aJ : Int
 fA : Int
 fB : Int
 fC : Int
deriving DecidableEq
def aq.rep : gi aq := fun g vs x => vs = [(vi x.aJ), (vi x.fA), (vi x.fB), (vi x.fC)]
theorem aq.mono : wB aq.rep := fun _ _ _ _ _ e => e
structure aE where
 dZ : Int
 eK : Int
 dM : Int
deriving DecidableEq
def aE.rep : gi aE := fun g vs x => vs = [(vi x.dZ), (vi x.eK), (vi x.dM)]
theorem aE.mono : wB aE.rep := fun _ _ _ _ _ e => e
structure ag where
 aO : ByteArray
 aP : ByteArray
 fArgs : Int
 aK : Int
 aL : Int
 aa : List aq
 aB : List aE
deriving DecidableEq
def ag.rep : gi ag := fun g vs x => ∃ w1 w2 : Value, vs = [(.string x.aO), (.string x.aP), (vi x.fArgs), (vi x.aK), (vi x.aL), w1, w2] ∧ ae aq.rep 4 g w1 x.aa ∧ ae aE.rep 3 g w2 x.aB
structure dW where
 e0 : Int
 e1 : Int
 e2 : Int
deriving DecidableEq
structure fH where
 e0 : Int
 e1 : Int
deriving DecidableEq
structure wW where
 um : ByteArray
 fp : dW
 sF : Int
 kB : fH
 ll : Bool
 kC : Bool
deriving DecidableEq
structure cR where
 gY : dW
 ux : Int
 ln : fH
 q8 : Bool
deriving DecidableEq
end
end Go.Ve.T
namespace Go.Ve.T
open Go.Ve Go.Proofs Go.ChangeShapes Go.WideShapes Go.ChangeAt Go.RowKit
section
variable {H : Type} {h : AH}
abbrev jD (h : AH) (t : TypeId) (cs : List Value) (d : DataW H) : Prop := AD PP h t cs d
theorem af4 {α : Type} (R : List Value → α → Prop) (Pr : α → Prop) : ∀ ls : List (List Value), (∀ y ∈ ls, ∃ x, R y x ∧ Pr x) → ∃ l, aM R ls l ∧ ∀ x ∈ l, Pr x := by
 intro ls
 induction ls with
 | nil => intro _; exact ⟨[], aM.nil, fun x hx => by cases hx⟩
 | cons y ls ih =>
  intro hh
  obtain ⟨x, h1, h2⟩ := hh y List.mem_cons_self
  obtain ⟨l, h3, h4⟩ := ih fun z hz => hh z (List.mem_cons_of_mem _ hz)
  refine ⟨x :: l, ⟨by rw [List.length_cons, List.length_cons, h3.1], fun i a c ha hc => ?_⟩, fun z hz => ?_⟩
  · cases i with
    | zero => simp at ha hc; rw [← ha, ← hc]; exact h1
    | succ i => exact h3.2 i a c (by simpa using ha) (by simpa using hc)
  · rcases List.mem_cons.1 hz with h | h
    · rw [h]; exact h2
    · exact h4 z h
theorem af5 {t : TypeId} {cs : List Value} {d : DataW H} (hu : PP.underlying t = some (.int .i64)) (A : jD h t cs d) : ∃ n, rI .i64 h cs n ∧ -9223372036854775808 ≤ n := by
 cases A with
 | int t k n aZ hw =>
  rw [hu] at aZ; cases aZ
  refine ⟨n, rfl, ?_⟩
  have : IntKind.i64.min ≤ n ∧ n ≤ IntKind.i64.max := by
   simpa [Lit.wf] using hw
  have e : IntKind.i64.min = -9223372036854775808 := by decide
  omega
 | bool _ _ aZ => rw [hu] at aZ; cases aZ
 | str _ _ aZ => rw [hu] at aZ; cases aZ
 | lC _ _ aZ => rw [hu] at aZ; cases aZ
 | sl _ _ _ _ _ _ _ _ _ aZ => rw [hu] at aZ; cases aZ
 | struct _ _ _ _ aZ => rw [hu] at aZ; cases aZ
 | arr _ _ _ _ _ aZ => rw [hu] at aZ; cases aZ
theorem af6 {t : TypeId} {cs : List Value} {d : DataW H} (k : IntKind) (hu : PP.underlying t = some (.int k)) (A : jD h t cs d) : ∃ n, rI k h cs n ∧ k.min ≤ n ∧ n ≤ k.max := by
 cases A with
 | int t k n aZ hw =>
  rw [hu] at aZ; cases aZ
  exact ⟨n, rfl, by simpa [Lit.wf] using hw⟩
 | bool _ _ aZ => rw [hu] at aZ; cases aZ
 | str _ _ aZ => rw [hu] at aZ; cases aZ
 | lC _ _ aZ => rw [hu] at aZ; cases aZ
 | sl _ _ _ _ _ _ _ _ _ aZ => rw [hu] at aZ; cases aZ
 | struct _ _ _ _ aZ => rw [hu] at aZ; cases aZ
 | arr _ _ _ _ _ aZ => rw [hu] at aZ; cases aZ
theorem af7 {t : TypeId} {cs : List Value} {d : DataW H} (hu : PP.underlying t = some .string) (A : jD h t cs d) : ∃ s, cs = [.string s] := by
 cases A with
 | str t s aZ => exact ⟨s, rfl⟩
 | bool _ _ aZ => rw [hu] at aZ; cases aZ
 | int _ _ _ aZ => rw [hu] at aZ; cases aZ
 | lC _ _ aZ => rw [hu] at aZ; cases aZ
 | sl _ _ _ _ _ _ _ _ _ aZ => rw [hu] at aZ; cases aZ
 | struct _ _ _ _ aZ => rw [hu] at aZ; cases aZ
 | arr _ _ _ _ _ aZ => rw [hu] at aZ; cases aZ
theorem On {α : Type} {rep : gi α} {sz : Nat} {t e : TypeId} {cs : List Value} {d : DataW H} (hu : PP.underlying t = some (.slice e)) (hz : PP.cellsOf e = sz) (Pr : α → Prop) (el : ∀ cs d, jD (H := H) h e cs d → ∃ x, rep h cs x ∧ Pr x) (A : jD h t cs d) : ∃ v l, cs = [v] ∧ ae rep sz h v l ∧ ∀ x ∈ l, Pr x := by
 cases A with
 | lC t e' aZ => exact ⟨_, [], rfl, ae.nil, fun x hx => by cases hx⟩
 | sl t e' b o n cap gh rest cM aZ hn hc gL hl l8 hr he =>
  rw [hu] at aZ; cases aZ
  obtain ⟨l, h1, h2⟩ := af4 (rep h) Pr cM fun y hy => by
   obtain ⟨i, hi⟩ := List.getElem?_of_mem hy
   have bC : i < gh.length := by rw [hn, ← hl]; exact (List.getElem?_eq_some_iff.1 hi).1
   exact el y _ (he i y _ hi (List.getElem?_eq_getElem bC))
  refine ⟨_, l, rfl, ⟨cM, .mk b o n cap cM hl.symm ⟨?_, .inl ⟨hc, ?_⟩⟩ (fun x hx => by rw [← hz]; exact l8 x hx) hr, h1⟩, h2⟩
  · have : maxLen < aT := by decide
    omega
  · have : maxLen < aT := by decide
    omega
 | bool _ _ aZ => rw [hu] at aZ; cases aZ
 | int _ _ _ aZ => rw [hu] at aZ; cases aZ
 | str _ _ aZ => rw [hu] at aZ; cases aZ
 | struct _ _ _ _ aZ => rw [hu] at aZ; cases aZ
 | arr _ _ _ _ _ aZ => rw [hu] at aZ; cases aZ
theorem Oo {t : TypeId} {fs : Array Field} {cs : List Value} {d : DataW H} (hu : PP.underlying t = some (.struct fs)) (A : jD h t cs d) : cs.length = PP.cellsOf t ∧ ∀ (i : Nat) (f : Field), fs[i]? = some f → ∃ d', jD (H := H) h f.type ((cs.drop f.offset).take (PP.cellsOf f.type)) d' := by
 cases A with
 | struct t fs' cs ds aZ hl hd he =>
  rw [hu] at aZ; cases aZ
  refine ⟨hl, fun i f hf => ?_⟩
  have bC : i < ds.length := by rw [hd]; exact (Array.getElem?_eq_some_iff.1 hf).1
  exact ⟨_, he i f _ hf (List.getElem?_eq_getElem bC)⟩
 | bool _ _ aZ => rw [hu] at aZ; cases aZ
 | int _ _ _ aZ => rw [hu] at aZ; cases aZ
 | str _ _ aZ => rw [hu] at aZ; cases aZ
 | lC _ _ aZ => rw [hu] at aZ; cases aZ
 | sl _ _ _ _ _ _ _ _ _ aZ => rw [hu] at aZ; cases aZ
 | arr _ _ _ _ _ aZ => rw [hu] at aZ; cases aZ
theorem ml {k z o : Nat} {cs : List Value} {d : DataW H} (hz : PP.cellsOf k = z) (A : jD h k ((cs.drop o).take (PP.cellsOf k)) d) : jD h k ((cs.drop o).take z) d := hz ▸ A
theorem af8 : PP.cellsOf 25 = 7 := by kernel_rfl
theorem W4 : PP.cellsOf 9 = 1 := by kernel_rfl
theorem W5 {cs : List Value} {d : DataW H} (A : jD h 9 cs d) : ∃ x, rS h cs x ∧ True := by
 obtain ⟨b, rfl⟩ := af7 Tryz.underlying9 A
 exact ⟨b, rfl, trivial⟩
theorem qN : PP.cellsOf 3 = 1 := by kernel_rfl
theorem qO {cs : List Value} {d : DataW H} (A : jD h 3 cs d) : ∃ x, rI .i64 h cs x ∧ -9223372036854775808 ≤ x := af5 Tryz.underlying3 A
theorem af9 : PP.cellsOf 22 = 1 := by kernel_rfl
theorem W6 : PP.cellsOf 67 = 4 := by kernel_rfl
theorem aga {α : Type} {l : List α} (h : l.length = 4) : ∃ c0 c1 c2 c3, l = [c0, c1, c2, c3] := by
 match l, h with
 | [c0, c1, c2, c3], _ => exact ⟨c0, c1, c2, c3, rfl⟩
theorem agb {cs : List Value} {d : DataW H} (A : jD h 67 cs d) : ∃ x, aq.rep h cs x ∧ (-9223372036854775808 ≤ x.aJ) ∧ (-9223372036854775808 ≤ x.fA) ∧ (-9223372036854775808 ≤ x.fB) ∧ (-9223372036854775808 ≤ x.fC) := by
 obtain ⟨hl, hf⟩ := Oo Tryz.underlying67 A
 obtain ⟨_, A0⟩ := hf 0 _ rfl
 obtain ⟨x0, e0, p0⟩ := qO (ml qN A0)
 obtain ⟨_, A1⟩ := hf 1 _ rfl
 obtain ⟨x1, e1, p1⟩ := qO (ml qN A1)
 obtain ⟨_, A2⟩ := hf 2 _ rfl
 obtain ⟨x2, e2, p2⟩ := qO (ml qN A2)
 obtain ⟨_, A3⟩ := hf 3 _ rfl
 obtain ⟨x3, e3, p3⟩ := qO (ml qN A3)
 rw [W6] at hl
 obtain ⟨c0, c1, c2, c3, rfl⟩ := aga hl
 cases e0
 cases e1
 cases e2
 cases e3
 exact ⟨⟨x0, x1, x2, x3⟩, rfl, ⟨p0, p1, p2, p3⟩⟩
theorem agc {cs : List Value} {d : DataW H} (A : jD h 22 cs d) : ∃ x, (rL aq.rep 4) h cs x ∧ ∀ sA ∈ x, (-9223372036854775808 ≤ sA.aJ) ∧ (-9223372036854775808 ≤ sA.fA) ∧ (-9223372036854775808 ≤ sA.fB) ∧ (-9223372036854775808 ≤ sA.fC) := by
 obtain ⟨v, l, e, f, p⟩ := On (rep := aq.rep) Tryz.underlying22 W6 (fun y => (-9223372036854775808 ≤ y.aJ) ∧ (-9223372036854775808 ≤ y.fA) ∧ (-9223372036854775808 ≤ y.fB) ∧ (-9223372036854775808 ≤ y.fC)) (fun cs d A => agb A) A
 exact ⟨l, ⟨v, e, f⟩, p⟩
theorem agd : PP.cellsOf 23 = 1 := by kernel_rfl
theorem W7 : PP.cellsOf 79 = 3 := by kernel_rfl
theorem age {α : Type} {l : List α} (h : l.length = 3) : ∃ c0 c1 c2, l = [c0, c1, c2] := by
 match l, h with
 | [c0, c1, c2], _ => exact ⟨c0, c1, c2, rfl⟩
theorem agf {cs : List Value} {d : DataW H} (A : jD h 79 cs d) : ∃ x, aE.rep h cs x ∧ (-9223372036854775808 ≤ x.dZ) ∧ (-9223372036854775808 ≤ x.eK) ∧ (-9223372036854775808 ≤ x.dM) := by
 obtain ⟨hl, hf⟩ := Oo Tryz.underlying79 A
 obtain ⟨_, A0⟩ := hf 0 _ rfl
 obtain ⟨x0, e0, p0⟩ := qO (ml qN A0)
 obtain ⟨_, A1⟩ := hf 1 _ rfl
 obtain ⟨x1, e1, p1⟩ := qO (ml qN A1)
 obtain ⟨_, A2⟩ := hf 2 _ rfl
 obtain ⟨x2, e2, p2⟩ := qO (ml qN A2)
 rw [W7] at hl
 obtain ⟨c0, c1, c2, rfl⟩ := age hl
 cases e0
 cases e1
 cases e2
 exact ⟨⟨x0, x1, x2⟩, rfl, ⟨p0, p1, p2⟩⟩
theorem agh {cs : List Value} {d : DataW H} (A : jD h 23 cs d) : ∃ x, (rL aE.rep 3) h cs x ∧ ∀ wo ∈ x, (-9223372036854775808 ≤ wo.dZ) ∧ (-9223372036854775808 ≤ wo.eK) ∧ (-9223372036854775808 ≤ wo.dM) := by
 obtain ⟨v, l, e, f, p⟩ := On (rep := aE.rep) Tryz.underlying23 W7 (fun y => (-9223372036854775808 ≤ y.dZ) ∧ (-9223372036854775808 ≤ y.eK) ∧ (-9223372036854775808 ≤ y.dM)) (fun cs d A => agf A) A
 exact ⟨l, ⟨v, e, f⟩, p⟩
theorem agi {α : Type} {l : List α} (h : l.length = 7) : ∃ c0 c1 c2 c3 c4 c5 c6, l = [c0, c1, c2, c3, c4, c5, c6] := by
 match l, h with
 | [c0, c1, c2, c3, c4, c5, c6], _ => exact ⟨c0, c1, c2, c3, c4, c5, c6, rfl⟩
theorem aba {cs : List Value} {d : DataW H} (A : jD h 25 cs d) : ∃ x, ag.rep h cs x ∧ (-9223372036854775808 ≤ x.fArgs) ∧ (-9223372036854775808 ≤ x.aK) ∧ (-9223372036854775808 ≤ x.aL) ∧ (∀ sA ∈ x.aa, (-9223372036854775808 ≤ sA.aJ) ∧ (-9223372036854775808 ≤ sA.fA) ∧ (-9223372036854775808 ≤ sA.fB) ∧ (-9223372036854775808 ≤ sA.fC)) ∧ (∀ wo ∈ x.aB, (-9223372036854775808 ≤ wo.dZ) ∧ (-9223372036854775808 ≤ wo.eK) ∧ (-9223372036854775808 ≤ wo.dM)) := by
 obtain ⟨hl, hf⟩ := Oo Tryz.underlying25 A
 obtain ⟨_, A0⟩ := hf 0 _ rfl
 obtain ⟨x0, e0, p0⟩ := W5 (ml W4 A0)
 obtain ⟨_, A1⟩ := hf 1 _ rfl
 obtain ⟨x1, e1, p1⟩ := W5 (ml W4 A1)
 obtain ⟨_, A2⟩ := hf 2 _ rfl
 obtain ⟨x2, e2, p2⟩ := qO (ml qN A2)
 obtain ⟨_, A3⟩ := hf 3 _ rfl
 obtain ⟨x3, e3, p3⟩ := qO (ml qN A3)
 obtain ⟨_, A4⟩ := hf 4 _ rfl
 obtain ⟨x4, e4, p4⟩ := qO (ml qN A4)
 obtain ⟨_, A5⟩ := hf 5 _ rfl
 obtain ⟨x5, e5, p5⟩ := agc (ml af9 A5)
 obtain ⟨_, A6⟩ := hf 6 _ rfl
 obtain ⟨x6, e6, p6⟩ := agh (ml agd A6)
 rw [af8] at hl
 obtain ⟨w5, e5, f5⟩ := e5
 obtain ⟨w6, e6, f6⟩ := e6
 obtain ⟨c0, c1, c2, c3, c4, c5, c6, rfl⟩ := agi hl
 cases e0
 cases e1
 cases e2
 cases e3
 cases e4
 cases e5
 cases e6
 exact ⟨⟨x0, x1, x2, x3, x4, x5, x6⟩, ⟨w5, w6, rfl, f5, f6⟩, ⟨p2, p3, p4, p5, p6⟩⟩
theorem sz5 : PP.cellsOf 5 = 1 := by kernel_rfl
theorem agj {cs : List Value} {d : DataW H} (A : jD h 5 cs d) : ∃ x, rI .u8 h cs x ∧ IntKind.u8.min ≤ x ∧ x ≤ IntKind.u8.max := af6 .u8 Tryz.underlying5 A
theorem abb {cs : List Value} {d : DataW H} (A : jD h 76 cs d) : ∃ x, (rL (rI .u8) 1) h cs x ∧ ∀ W8 ∈ x, (IntKind.u8.min ≤ W8 ∧ W8 ≤ IntKind.u8.max) := by
 obtain ⟨v, l, e, f, p⟩ := On (rep := (rI .u8)) Tryz.underlying76 sz5 (fun y => (IntKind.u8.min ≤ y ∧ y ≤ IntKind.u8.max)) (fun cs d A => agj A) A
 exact ⟨l, ⟨v, e, f⟩, p⟩
end
section
variable {H : Type} {enc : TypeId × Value → H}
theorem aa8 : tU PP 10 25 = true := by kernel_rfl
theorem aa9 : tU PP 10 76 = true := by kernel_rfl
theorem Sa {W : World} {t : TypeId} {v : Value} {d : DataW H} {ps : List MemPlace} (hp : tU PP 10 t = true) (ht : DataW.Trod enc PP W 0 (fun _ => true) true t v d ps) {φ : au} {h : AH} (R : HR PP W φ h W) :
 ∃ φ' h' cs, HR PP W φ' h' W ∧ Go.Ve.Ext h.nx φ φ' ∧ cU h h' ∧ LR φ' cs v.cells.toList ∧ jD h' t cs d := by
 obtain ⟨fuel, hf⟩ := ht
 exact afw 10 t _ _ fuel hp hf φ h R
end
end Go.Ve.T
