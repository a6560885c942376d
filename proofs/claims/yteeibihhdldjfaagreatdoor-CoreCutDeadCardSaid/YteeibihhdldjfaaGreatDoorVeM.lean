/- Part 13: : the functions as the evaluator takes them, and that they are what the translation says. No condition. And more. -/
import Derived.Test.YteeibihhdldjfaaGreatDoorVeL
import Derived.Test.YteeibihhdldjfaaGreatDoorProg
set_option linter.unusedVariables false
set_option linter.unusedSimpArgs false
namespace Go.Ve.T
open Go.Ve Go.Proofs
noncomputable abbrev PP:Program:=Tryz.prog
theorem cq:PP.follows .mixedOrders=true:=by kernel_rfl
abbrev fc (f:Nat):Z:=.func (.func f) #[] #[]
abbrev bs (l:List UInt8):Z:=.string ⟨⟨l⟩⟩
abbrev o (d:Pos) (p:Prim) (a:List gp):cB:=⟨some d,.aU p,a,none⟩
abbrev m (d:Pos) (x:gp):cB:=⟨some d,.aU .move,[x],none⟩
def s0:Pos:=.xH
def s1:Pos:=.xO s0
def s2:Pos:=.xI s0
def s3:Pos:=.xO s1
def s4:Pos:=.xI s1
def s5:Pos:=.xO s2
def s6:Pos:=.xI s2
def s7:Pos:=.xO s3
def s8:Pos:=.xI s3
def s9:Pos:=.xO s4
def wT:Pos:=.xI s4
def pH:Pos:=.xO s5
def we:Pos:=.xI s5
def CN:Pos:=.xO s6
def nz:Pos:=.xI s6
def sY:Pos:=.xO s7
def uF:Pos:=.xI s7
def wM:Pos:=.xO s8
def A8:Pos:=.xI s8
def yR:Pos:=.xO s9
def yS:Pos:=.xI s9
def wK:Pos:=.xO wT
def yT:Pos:=.xI wT
def uL:Pos:=.xO pH
def sx:Pos:=.xI pH
def yU:Pos:=.xO we
def yV:Pos:=.xI we
def yW:Pos:=.xO CN
def rX:Pos:=.xI CN
def yX:Pos:=.xO nz
def pQ:Pos:=.xI nz
def wg:Pos:=.xO sY
def wh:Pos:=.xI sY
def uE:Pos:=.xO uF
def xm:Pos:=.xI uF
def wR:Pos:=.xO wM
def yY:Pos:=.xI wM
def yZ:Pos:=.xO A8
def y6:Pos:=.xI A8
def za:Pos:=.xO yR
def zb:Pos:=.xI yR
def zc:Pos:=.xO yS
def wN:Pos:=.xI yS
def wS:Pos:=.xO wK
def wL:Pos:=.xI wK
def wQ:Pos:=.xO yT
def zd:Pos:=.xI yT
def tj:Pos:=.xO uL
def n8:Pos:=.xI uL
def qg:Pos:=.xO sx
def ze:Pos:=.xI sx
def xn:Pos:=.xO yU
def zf:Pos:=.xI yU
def zg:Pos:=.xO yV
def rm:Pos:=.xI yV
def CO:Pos:=.xO yW
def CP:Pos:=.xI yW
def Iz:Pos:=.xO rX
def EI:Pos:=.xI rX
def IA:Pos:=.xO yX
def IB:Pos:=.xI yX
def IC:Pos:=.xO pQ
def ID:Pos:=.xI pQ
def IE:Pos:=.xO wg
def IF:Pos:=.xI wg
def FM:Pos:=.xO wh
def IG:Pos:=.xI wh
def IH:Pos:=.xO uE
def II:Pos:=.xI uE
def IJ:Pos:=.xO xm
def IK:Pos:=.xI xm
def IL:Pos:=.xO wR
def Hi:Pos:=.xI wR
def UO:Pos:=.xO yY
def UP:Pos:=.xI yY
def B0:Pos:=.xO yZ
def EH:Pos:=.xI yZ
def wP:Pos:=.xO y6
def s78:Pos:=.xI y6
def s79:Pos:=.xO za
def s80:Pos:=.xI za
def s81:Pos:=.xO zb
def s82:Pos:=.xI zb
def s83:Pos:=.xO zc
def FN:Pos:=.xI zc
def s85:Pos:=.xO wN
def s86:Pos:=.xI wN
def Zv:Pos:=.xO wS
def s88:Pos:=.xI wS
def s89:Pos:=.xO wL
def s90:Pos:=.xI wL
def CQ:Pos:=.xO wQ
def s92:Pos:=.xI wQ
def s93:Pos:=.xO zd
def s94:Pos:=.xI zd
def s95:Pos:=.xO tj
def s96:Pos:=.xI tj
def s97:Pos:=.xO n8
def s98:Pos:=.xI n8
def FO:Pos:=.xO qg
def amP:Pos:=.xI qg
def amQ:Pos:=.xO ze
def ZU:Pos:=.xI ze
def amR:Pos:=.xO xn
def amS:Pos:=.xI xn
def amT:Pos:=.xO zf
def amU:Pos:=.xI zf
def amV:Pos:=.xO zg
def amW:Pos:=.xI zg
def amX:Pos:=.xO rm
def amY:Pos:=.xI rm
def amZ:Pos:=.xO CO
def UQ:Pos:=.xI CO
def adX:Pos:=.xO CP
def YF:Pos:=.xI CP
def am0:Pos:=.xO Iz
def am1:Pos:=.xI Iz
def KK:Pos:=.xO EI
def Aa:Pos:=.xI EI
def am2:Pos:=.xO IA
def am3:Pos:=.xI IA
def am4:Pos:=.xO IB
def am5:Pos:=.xI IB
def am6:Pos:=.xO IC
def am7:Pos:=.xI IC
def am8:Pos:=.xO ID
def am9:Pos:=.xI ID
def ana:Pos:=.xO IE
def CS:Pos:=.xI IE
def anb:Pos:=.xO IF
def anc:Pos:=.xI IF
def ane:Pos:=.xO FM
def anf:Pos:=.xI FM
def ang:Pos:=.xO IG
def anh:Pos:=.xI IG
def ani:Pos:=.xO IH
def adY:Pos:=.xI IH
def anj:Pos:=.xO II
def adZ:Pos:=.xI II
def ank:Pos:=.xO IJ
def anl:Pos:=.xI IJ
def anm:Pos:=.xO IK
def ann:Pos:=.xI IK
def ano:Pos:=.xO IL
def anp:Pos:=.xI IL
abbrev aiW:FuncId:=6
abbrev abb:FuncId:=12
abbrev aaA:FuncId:=13
abbrev RY:FuncId:=14
abbrev ZZ:FuncId:=16
abbrev Sj:FuncId:=18
abbrev R8:FuncId:=20
abbrev aay:FuncId:=22
abbrev aaN:FuncId:=23
abbrev Zu:FuncId:=27
abbrev Sw:FuncId:=28
abbrev RR:FuncId:=29
abbrev Z4:FuncId:=30
abbrev Z6:FuncId:=38
abbrev Hp:FuncId:=53
abbrev Rq:FuncId:=54
abbrev aac:FuncId:=60
abbrev aag:FuncId:=61
abbrev Sc:FuncId:=62
abbrev ZJ:FuncId:=65
abbrev BW:FuncId:=74
abbrev j5:FuncId:=75
abbrev XU:FuncId:=76
abbrev Y9:FuncId:=77
abbrev aaO:FuncId:=78
abbrev Sv:FuncId:=79
abbrev X5:FuncId:=80
abbrev Yk:FuncId:=81
abbrev Q3:FuncId:=82
abbrev Yg:FuncId:=83
abbrev x7:FuncId:=84
abbrev YE:FuncId:=85
abbrev Hj:FuncId:=86
abbrev Et:FuncId:=87
abbrev YL:FuncId:=93
abbrev Q5:FuncId:=98
abbrev QW:FuncId:=100
abbrev Rf:FuncId:=101
abbrev RV:FuncId:=102
abbrev Zy:FuncId:=103
abbrev RW:FuncId:=104
abbrev YT:FuncId:=105
abbrev YX:FuncId:=106
abbrev aiI:FuncId:=107
abbrev XF:FuncId:=115
abbrev QT:FuncId:=116
abbrev QX:FuncId:=117
abbrev XM:FuncId:=118
abbrev Ya:FuncId:=119
abbrev ahX:FuncId:=120
abbrev Rj:FuncId:=121
abbrev Ri:FuncId:=123
abbrev Rg:FuncId:=124
abbrev XJ:FuncId:=134
abbrev YQ:FuncId:=135
abbrev XE:FuncId:=150
abbrev atv:FuncId:=154
abbrev aih:FuncId:=155
noncomputable def aF (k:Nat):lv:=(c7 PP k).getD ⟨0,[],.skip,false⟩
theorem eL {k}(h:(c7 PP k).isSome=true):c7 PP k=some (aF k):=by
 unfold aF;cases hc:c7 PP k with
 | none=>rw [hc]at h;cases h
 | some x=>rfl
theorem e3:c7 PP 3=some (aF 3):=eL (by kernel_rfl)
theorem e4:c7 PP 4=some (aF 4):=eL (by kernel_rfl)
theorem e5:c7 PP 5=some (aF 5):=eL (by kernel_rfl)
theorem e6:c7 PP 6=some (aF 6):=eL (by kernel_rfl)
theorem e7:c7 PP 7=some (aF 7):=eL (by kernel_rfl)
theorem e8:c7 PP 8=some (aF 8):=eL (by kernel_rfl)
theorem e9:c7 PP 9=some (aF 9):=eL (by kernel_rfl)
theorem UN:c7 PP 10=some (aF 10):=eL (by kernel_rfl)
theorem e13:c7 PP 13=some (aF 13):=eL (by kernel_rfl)
theorem e14:c7 PP 14=some (aF 14):=eL (by kernel_rfl)
theorem e16:c7 PP 16=some (aF 16):=eL (by kernel_rfl)
theorem e18:c7 PP 18=some (aF 18):=eL (by kernel_rfl)
theorem e20:c7 PP 20=some (aF 20):=eL (by kernel_rfl)
theorem e22:c7 PP 22=some (aF 22):=eL (by kernel_rfl)
theorem e23:c7 PP 23=some (aF 23):=eL (by kernel_rfl)
theorem e27:c7 PP 27=some (aF 27):=eL (by kernel_rfl)
theorem e28:c7 PP 28=some (aF 28):=eL (by kernel_rfl)
def nD:lv:=⟨145,[.cell s4 none,.cell s5 none],(.seq (.ops [o s2 (.box 51) [.t s0],o s3 (.box 25) [.t s1],o s4 (.alloc 29 [vi 0]) [],o s5 (.alloc 3 [vi 0]) []]) (.seq (.seq (.ops [o yS (.fieldAddr 0) [.t s3],o wK .aB [.t yS],⟨some yT,.call 74,[.t wK],none⟩,o uL .ed [.t yT],m sx (.t uL),⟨some yU,(.aU (.fieldAddr 1)),[.t s3],some (sx,false)⟩,⟨some yV,(.aU (.aB)),[.t yU],some (sx,false)⟩,⟨some yW,(.aU (.zT .neq)),[.t yV,.c (bs [])],some (sx,false)⟩,⟨some rX,(.aU (.move)),[.t yW],some (sx,false)⟩,⟨some yX,(.aU (.fieldAddr 1)),[.t s3],some (rX,true)⟩,⟨some pQ,(.aU (.aB)),[.t yX],some (rX,true)⟩,⟨some wg,.call 74,[.t pQ],some (rX,true)⟩,⟨some wh,(.aU (.ed)),[.t wg],some (rX,true)⟩,⟨some uE,(.aU (.pick)),[.t rX,.t wh,.c (.bool false)],some (sx,false)⟩,o xm .pick [.t sx,.c (.bool true),.t uE]]) (.cond (.t xm) (.seq (.ops [⟨none,(.aU (.store 1)),[.t s4,.c (vi 4)],none⟩,⟨none,(.aU (.store 1)),[.t s5,.c (vi 0)],none⟩]) .ret) .skip)) (.seq (.seq (.ops [o wR (.bZ 7) [.t s3],⟨some yY,.call 80,[.t wR],none⟩,m s6 (.t yY)]) (.seq (.ops [m yZ (.t s6),o y6 (.aL .neq) [.t yZ,.c (vi 0)]]) (.cond (.t y6) (.seq (.ops [m za (.t s6),⟨none,(.aU (.store 1)),[.t s4,.t za],none⟩,⟨none,(.aU (.store 1)),[.t s5,.c (vi 0)],none⟩]) .ret) .skip))) (.seq (.seq (.ops [o zb (.fieldAddr 5) [.t s3],o zc .aB [.t zb],o wN (.xZ (.func 82) 0) [.t s2,.t s3],⟨some wS,.call 81,[.t zc,.t wN],none⟩,m s7 (.t wS)]) (.seq (.ops [m wL (.t s7),o wQ (.aL .geq) [.t wL,.c (vi 0)]]) (.cond (.t wQ) (.seq (.ops [m zd (.t s7),⟨none,(.aU (.store 1)),[.t s4,.c (vi 1)],none⟩,⟨none,(.aU (.store 1)),[.t s5,.t zd],none⟩]) .ret) .skip))) (.seq (.ops [o tj (.fieldAddr 5) [.t s3],o n8 .aB [.t tj],o qg .cb [.t n8],o ze (.aL .sub) [.t qg,.c (vi 1)],m s8 (.t ze)]) (.seq (.seq (.ops [o zf (.fieldAddr 5) [.t s3],o zg .aB [.t zf],m rm (.t s8),o CO (.cf 4) [.t zg,.t rm],o CP (.fieldAddr 0) [.t CO],o Iz .aB [.t CP],⟨some EI,.call 84,[.t Iz],none⟩,m xn (.t EI),o IA (.extract 0) [.t xn],o IB (.extract 1) [.t xn],o s9 (.alloc 138 [(bs []),vi 0,vi 0,vi 0,vi 0,vi 0,vi 0,.bool false,.bool false]) [],⟨none,(.aU (.store 9)),[.t s9,.t IA],none⟩,m wT (.t IB)]) (.seq (.ops [o IC (.fieldAddr 8) [.t s9],o ID .aB [.t IC],o IE .ed [.t ID]]) (.cond (.t IE) (.seq (.ops [m IF (.t s8),⟨none,(.aU (.store 1)),[.t s4,.c (vi 2)],none⟩,⟨none,(.aU (.store 1)),[.t s5,.t IF],none⟩]) .ret) .skip))) (.seq (.ops [o IG (.bZ 5) [.t s2],o IH (.bZ 7) [.t s3],⟨some II,.call 85,[.t IG,.t IH],none⟩,m FM (.t II),o IJ (.extract 0) [.t FM],o IK (.extract 1) [.t FM],o pH (.alloc 28 [bJ]) [],⟨none,(.aU (.store 1)),[.t pH,.t IJ],none⟩,m we (.t IK)]) (.seq (.seq (.ops [m IL (.t we),o Hi (.aL .geq) [.t IL,.c (vi 0)]]) (.cond (.t Hi) (.seq (.ops [m UO (.t we),⟨none,(.aU (.store 1)),[.t s4,.c (vi 2)],none⟩,⟨none,(.aU (.store 1)),[.t s5,.t UO],none⟩]) .ret) .skip)) (.seq (.seq (.ops [o UP (.fieldAddr 6) [.t s3],o B0 .aB [.t UP],o EH .cb [.t B0],m wP (.c (vi 0))]) (.block 0 (.loop (.seq (.ops [o s78 (.aL .lss) [.t wP,.t EH]]) (.seq (.cond (.t s78) .skip (.exit 0)) (.seq (.block 1 (.seq (.ops [o s79 (.cf 3) [.t B0,.t wP],o s80 (.bZ 3) [.t s79],o nz (.alloc 79 [vi 0,vi 0,vi 0]) [],⟨none,(.aU (.store 3)),[.t nz,.t s80],none⟩]) (.seq (.ops [o s81 (.fieldAddr 0) [.t nz],o s82 .aB [.t s81],o s83 (.aL .lss) [.t s82,.c (vi 0)],m FN (.t s83),⟨some s85,(.aU (.fieldAddr 0)),[.t nz],some (FN,false)⟩,⟨some s86,(.aU (.aB)),[.t s85],some (FN,false)⟩,⟨some Zv,(.aU (.fieldAddr 1)),[.t nz],some (FN,false)⟩,⟨some s88,(.aU (.aB)),[.t Zv],some (FN,false)⟩,⟨some s89,(.aU (.aL .geq)),[.t s86,.t s88],some (FN,false)⟩,o s90 .pick [.t FN,.c (.bool true),.t s89],m CQ (.t s90),⟨some s92,(.aU (.fieldAddr 1)),[.t nz],some (CQ,false)⟩,⟨some s93,(.aU (.aB)),[.t s92],some (CQ,false)⟩,⟨some s94,(.aU (.fieldAddr 5)),[.t s3],some (CQ,false)⟩,⟨some s95,(.aU (.aB)),[.t s94],some (CQ,false)⟩,⟨some s96,(.aU (.cb)),[.t s95],some (CQ,false)⟩,⟨some s97,(.aU (.aL .gtr)),[.t s93,.t s96],some (CQ,false)⟩,o s98 .pick [.t CQ,.c (.bool true),.t s97],m FO (.t s98),⟨some amP,(.aU (.fieldAddr 2)),[.t nz],some (FO,false)⟩,⟨some amQ,(.aU (.aB)),[.t amP],some (FO,false)⟩,⟨some ZU,(.aU (.move)),[.t s8],some (FO,false)⟩,⟨some amR,.call 75,[.t amQ,.c (vi 0),.t ZU],some (FO,false)⟩,⟨some amS,(.aU (.ed)),[.t amR],some (FO,false)⟩,o amT .pick [.t FO,.c (.bool true),.t amS]]) (.cond (.t amT) (.seq (.seq (.ops [o amU (.fieldAddr 0) [.t nz],o amV .aB [.t amU],m amW (.t s8),⟨some amX,.call 75,[.t amV,.c (vi 0),.t amW],none⟩,o amY .ed [.t amX]]) (.cond (.t amY) (.ops [o amZ (.fieldAddr 0) [.t nz],⟨none,(.aU (.store 1)),[.t amZ,.c (vi 0)],none⟩]) .skip)) (.seq (.draw [.op 0 (o UQ (.fieldAddr 0) [.t nz]),.op 1 (o adX .aB [.t UQ]),.op 2 (⟨none,(.aU (.store 1)),[.t s4,.c (vi 2)],none⟩),.mz 1 (o adX .aB [.t UQ]),.mz 0 (o UQ (.fieldAddr 0) [.t nz]),.op 3 (⟨none,(.aU (.store 1)),[.t s5,.t adX],none⟩)]) .ret)) .skip)))) (.ops [o YF (.aL .add) [.t wP,.c (vi 1)],m wP (.t YF)]))))))) (.seq (.seq (.ops [o am0 (.fieldAddr 5) [.t s3],o am1 .aB [.t am0],o KK .cb [.t am1],m Aa (.c (vi 0))]) (.block 2 (.loop (.seq (.ops [o am2 (.aL .lss) [.t Aa,.t KK]]) (.seq (.cond (.t am2) .skip (.exit 2)) (.seq (.block 3 (.seq (.ops [m am3 (.t Aa),o sY (.alloc 3 [vi 0]) [],⟨none,(.aU (.store 1)),[.t sY,.t am3],none⟩]) (.seq (.ops [o am4 (.bZ 7) [.t s3],o am5 .aB [.t sY],⟨some am6,.call 86,[.t am4,.t am5],none⟩]) (.block 4 (.tr (.t am6) [am7,am8] (.seq (.ops [m uF (.t am7)]) (.ops [m wM (.t am8)])) (.block 5 (.seq (.ops [m am9 (.t wM),o ana (.aL .neq) [.t am9,.c (vi 0)],m CS (.t ana),⟨some anb,(.aU (.aB)),[.t pH],some (CS,true)⟩,⟨some anc,(.aU (.move)),[.t uF],some (CS,true)⟩,⟨some ane,(.aU (.cf 1)),[.t anb,.t anc],some (CS,true)⟩,⟨some anf,(.aU (.aB)),[.t ane],some (CS,true)⟩,⟨some ang,(.aU (.move)),[.t uF],some (CS,true)⟩,⟨some anh,(.aU (.aL .neq)),[.t anf,.t ang],some (CS,true)⟩,o ani .pick [.t CS,.t anh,.c (.bool false)]]) (.cond (.t ani) (.seq (.draw [.op 0 (o adY .aB [.t sY]),.op 1 (⟨none,(.aU (.store 1)),[.t s4,.c (vi 2)],none⟩),.mz 0 (o adY .aB [.t sY]),.op 2 (⟨none,(.aU (.store 1)),[.t s5,.t adY],none⟩)]) .ret) .skip)))))))) (.ops [o anj (.aL .add) [.t Aa,.c (vi 1)],m Aa (.t anj)]))))))) (.seq (.seq (.ops [o ank (.bZ 7) [.t s3],⟨some anl,.call 54,[.t ank],none⟩,m adZ (.t anl),o anm (.extract 0) [.t adZ],o ann (.extract 1) [.t adZ],m A8 (.t anm),m yR (.t ann)]) (.seq (.ops [m ano (.t yR),o anp .ed [.t ano]]) (.cond (.t anp) (.seq (.ops [⟨none,(.aU (.store 1)),[.t s4,.c (vi 12)],none⟩,⟨none,(.aU (.store 1)),[.t s5,.c (vi 0)],none⟩]) .ret) .skip))) (.seq (.ops [⟨none,(.aU (.store 1)),[.t s4,.c (vi 0)],none⟩,⟨none,(.aU (.store 1)),[.t s5,.c (vi 0)],none⟩]) .ret)))))))))))),false⟩
theorem e29:c7 PP 29=some nD:=by kernel_rfl
theorem e30:c7 PP 30=some (aF 30):=eL (by kernel_rfl)
theorem e38:c7 PP 38=some (aF 38):=eL (by kernel_rfl)
theorem e53:c7 PP 53=some (aF 53):=eL (by kernel_rfl)
def Hl:lv:=⟨78,[.cell s2 none,.cell s3 none],(.seq (.ops [o s1 (.box 25) [.t s0],o s2 (.alloc 28 [bJ]) [],o s3 (.alloc 4 [.bool false]) []]) (.seq (.ops [o wT (.buildSlice 3 1 [vi 0] [(0,1)]) [.c (vi (-1))],o pH (.fieldAddr 5) [.t s1],o we .aB [.t pH],o CN .cb [.t we],⟨some nz,.call 105,[.t wT,.t CN],none⟩,o s4 (.alloc 28 [bJ]) [],⟨none,(.aU (.store 1)),[.t s4,.t nz],none⟩]) (.seq (.ops [o sY .aB [.t s4],o uF (.cf 1) [.t sY,.c (vi 0)],⟨none,(.aU (.store 1)),[.t uF,.c (vi 0)],none⟩]) (.seq (.seq (.ops [o wM (.buildSlice 3 1 [vi 0] [(0,1)]) [.c (vi 0)],o s5 (.alloc 28 [bJ]) [],⟨none,(.aU (.store 1)),[.t s5,.t wM],none⟩]) (.block 0 (.loop (.seq (.seq (.ops [o A8 .aB [.t s5],o yR .cb [.t A8],o yS (.aL .gtr) [.t yR,.c (vi 0)]]) (.cond (.t yS) .skip (.exit 0))) (.seq (.block 1 (.seq (.ops [o uL .aB [.t s5],o sx (.cf 1) [.t uL,.c (vi 0)],o yU .aB [.t sx],o s6 (.alloc 3 [vi 0]) [],⟨none,(.aU (.store 1)),[.t s6,.t yU],none⟩]) (.seq (.ops [o yV (.bZ 7) [.t s1],o yW .aB [.t s6],⟨some rX,.call 86,[.t yV,.t yW],none⟩]) (.block 2 (.tr (.t rX) [yX,pQ] (.seq (.ops [m s7 (.t yX)]) (.ops [m s8 (.t pQ)])) (.block 3 (.seq (.draw [.op 0 (o wg .aB [.t s4]),.op 1 (o wh .aB [.t s6]),.op 2 (o uE (.cf 1) [.t wg,.t wh]),.op 3 (o xm .aB [.t uE]),.op 4 (o wR (.fieldAddr 5) [.t s1]),.op 5 (o yY .aB [.t wR]),.op 6 (o yZ .aB [.t s6]),.op 7 (o y6 (.cf 4) [.t yY,.t yZ]),.op 8 (o za (.bZ 4) [.t y6]),.op 9 (m zb (.t s8)),.op 10 (⟨some zc,.call 106,[.t za,.t zb],none⟩),.mz 3 (o xm .aB [.t uE]),.mz 2 (o uE (.cf 1) [.t wg,.t wh]),.mz 1 (o wh .aB [.t s6]),.mz 0 (o wg .aB [.t s4]),.op 11 (o wN (.aL .add) [.t xm,.t zc]),.op 12 (m s9 (.t wN))]) (.seq (.seq (.ops [m wS (.t s8),o wL (.aL .eql) [.t wS,.c (vi 2)]]) (.cond (.t wL) (.ops [m s9 (.c (vi 0))]) .skip)) (.seq (.seq (.ops [m wQ (.t s9),⟨some zd,.call 75,[.t wQ,.c (vi 0),.c (vi 40)],none⟩,o tj .ed [.t zd],m n8 (.t tj),⟨some qg,(.aU (.aB)),[.t s4],some (n8,false)⟩,⟨some ze,(.aU (.move)),[.t s7],some (n8,false)⟩,⟨some xn,(.aU (.cf 1)),[.t qg,.t ze],some (n8,false)⟩,⟨some zf,(.aU (.aB)),[.t xn],some (n8,false)⟩,⟨some zg,(.aU (.aL .geq)),[.t zf,.c (vi 0)],some (n8,false)⟩,⟨some rm,(.aU (.move)),[.t zg],some (n8,false)⟩,⟨some CO,(.aU (.aB)),[.t s4],some (rm,true)⟩,⟨some CP,(.aU (.move)),[.t s7],some (rm,true)⟩,⟨some Iz,(.aU (.cf 1)),[.t CO,.t CP],some (rm,true)⟩,⟨some EI,(.aU (.aB)),[.t Iz],some (rm,true)⟩,⟨some IA,(.aU (.move)),[.t s9],some (rm,true)⟩,⟨some IB,(.aU (.aL .neq)),[.t EI,.t IA],some (rm,true)⟩,⟨some IC,(.aU (.pick)),[.t rm,.t IB,.c (.bool false)],some (n8,false)⟩,o ID .pick [.t n8,.c (.bool true),.t IC]]) (.cond (.t ID) (.seq (.ops [⟨none,(.aU (.store 1)),[.t s2,.c bJ],none⟩,⟨none,(.aU (.store 1)),[.t s3,.c (.bool false)],none⟩]) .ret) .skip)) (.seq (.ops [o IE .aB [.t s4],m IF (.t s7),o FM (.cf 1) [.t IE,.t IF],o IG .aB [.t FM],o IH (.aL .lss) [.t IG,.c (vi 0)]]) (.cond (.t IH) (.seq (.ops [o II .aB [.t s4],m IJ (.t s7),m IK (.t s9),o IL (.cf 1) [.t II,.t IJ],⟨none,(.aU (.store 1)),[.t IL,.t IK],none⟩]) (.ops [o Hi .aB [.t s5],m UO (.t s7),o UP (.buildSlice 3 1 [vi 0] [(0,1)]) [.t UO],o B0 (.append 3 1 [vi 0]) [.t Hi,.t UP],⟨none,(.aU (.store 1)),[.t s5,.t B0],none⟩])) .skip))))))))))) (.seq (.seq (.ops [o EH .aB [.t s5]]) (.ops [o s5 (.alloc 28 [bJ]) [],⟨none,(.aU (.store 1)),[.t s5,.t EH],none⟩])) (.ops [o wK .aB [.t s5],o yT (.slice 1 true false false) [.t wK,.c (vi 1)],⟨none,(.aU (.store 1)),[.t s5,.t yT],none⟩]))))))) (.seq (.ops [o wP .aB [.t s4],⟨none,(.aU (.store 1)),[.t s2,.t wP],none⟩,⟨none,(.aU (.store 1)),[.t s3,.c (.bool true)],none⟩]) .ret))))),false⟩
theorem e54:c7 PP 54=some Hl:=by kernel_rfl
def KP:lv:=⟨57,[.tmp s6],(.seq (.ops [o s3 (.box 25) [.t s0],o s4 (.box 3) [.t s1],o s5 (.box 101) [.t s2],m s6 (.c (.map none))]) (.seq (.ops [o CN .mkMap [],o s7 (.alloc 102 [.map none]) [],⟨none,(.aU (.store 1)),[.t s7,.t CN],none⟩]) (.seq (.seq (.ops [o nz (.bZ 7) [.t s3],o sY .aB [.t s4],⟨some uF,.call 86,[.t nz,.t sY],none⟩]) (.block 0 (.tr (.t uF) [wM,A8] (.seq (.ops [m s8 (.t wM)]) (.ops [m s9 (.t A8)])) (.block 1 (.seq (.ops [o yR .aB [.t s5],m yS (.t s8),o wK (.cf 1) [.t yR,.t yS],o yT .aB [.t wK],o uL (.x .KN) [.t yT]]) (.block 2 (.loop (.seq (.ops [o sx (.x .EJ) [.t uL],o yU (.extract 0) [.t sx]]) (.seq (.cond (.t yU) .skip (.exit 2)) (.block 3 (.seq (.ops [o yV (.x .entry) [.t uL],o yW (.extract 0) [.t yV],m wT (.t yW)]) (.seq (.ops [m rX (.t s9),o yX (.aL .eql) [.t rX,.c (vi 2)],m pQ (.t yX),⟨some wg,(.aU (.move)),[.t wT],some (pQ,false)⟩,⟨some wh,(.aU (.fieldAddr 5)),[.t s3],some (pQ,false)⟩,⟨some uE,(.aU (.aB)),[.t wh],some (pQ,false)⟩,⟨some xm,(.aU (.aB)),[.t s4],some (pQ,false)⟩,⟨some wR,(.aU (.cf 4)),[.t uE,.t xm],some (pQ,false)⟩,⟨some yY,(.aU (.bZ 4)),[.t wR],some (pQ,false)⟩,⟨some yZ,.call 38,[.t yY],some (pQ,false)⟩,⟨some y6,(.aU (.aL .neq)),[.t wg,.t yZ],some (pQ,false)⟩,o za .pick [.t pQ,.c (.bool true),.t y6]]) (.cond (.t za) (.ops [o zb .aB [.t s7],m zc (.t wT),⟨none,(.aU (.ye 0)),[.t zb,.t zc,.c (.bool true)],none⟩]) .skip))))))))))))) (.seq (.seq (.ops [o wN (.fieldAddr 5) [.t s3],o wS .aB [.t wN],o wL .aB [.t s4],o wQ (.cf 4) [.t wS,.t wL],o zd (.bZ 4) [.t wQ],⟨some tj,.call 30,[.t zd],none⟩,o n8 .cb [.t tj],m qg (.c (vi 0))]) (.block 4 (.loop (.seq (.ops [o ze (.aL .lss) [.t qg,.t n8]]) (.seq (.cond (.t ze) .skip (.exit 4)) (.seq (.block 5 (.seq (.ops [o xn (.cf 1) [.t tj,.t qg],o zf .aB [.t xn],m we (.t zf)]) (.ops [o zg .aB [.t s7],m rm (.t we),⟨none,(.aU (.ye 0)),[.t zg,.t rm,.c (.bool true)],none⟩]))) (.ops [o CO (.aL .add) [.t qg,.c (vi 1)],m qg (.t CO)]))))))) (.seq (.ops [o CP .aB [.t s7],m s6 (.t CP)]) .ret))))),true⟩
theorem e60:c7 PP 60=some KP:=by kernel_rfl
theorem e61:c7 PP 61=some (aF 61):=eL (by kernel_rfl)
theorem e62:c7 PP 62=some (aF 62):=eL (by kernel_rfl)
theorem e65:c7 PP 65=some (aF 65):=eL (by kernel_rfl)
theorem e74:c7 PP 74=some (aF 74):=eL (by kernel_rfl)
theorem e75:c7 PP 75=some (aF 75):=eL (by kernel_rfl)
theorem e76:c7 PP 76=some (aF 76):=eL (by kernel_rfl)
theorem e77:c7 PP 77=some (aF 77):=eL (by kernel_rfl)
def KR:lv:=⟨55,[.cell s4 none],(.seq (.ops [o s2 (.box 25) [.t s0],o s3 (.box 100) [.t s1],o s4 (.alloc 39 [bJ]) []]) (.seq (.ops [o wT (.fieldAddr 5) [.t s2],o pH .aB [.t wT],o we .cb [.t pH],o CN (.mkSlice 4 1 [.bool false]) [.t we,.t we],o s5 (.alloc 39 [bJ]) [],⟨none,(.aU (.store 1)),[.t s5,.t CN],none⟩]) (.seq (.ops [o nz (.buildSlice 3 1 [vi 0] [(0,1)]) [.c (vi 0)],o s6 (.alloc 28 [bJ]) [],⟨none,(.aU (.store 1)),[.t s6,.t nz],none⟩]) (.seq (.ops [o sY .aB [.t s5],o uF (.cf 1) [.t sY,.c (vi 0)],⟨none,(.aU (.store 1)),[.t uF,.c (.bool true)],none⟩]) (.seq (.block 0 (.loop (.seq (.seq (.ops [o wM .aB [.t s6],o A8 .cb [.t wM],o yR (.aL .gtr) [.t A8,.c (vi 0)]]) (.cond (.t yR) .skip (.exit 0))) (.block 1 (.seq (.ops [o yS .aB [.t s6],o wK .aB [.t s6],o yT .cb [.t wK],o uL (.aL .sub) [.t yT,.c (vi 1)],o sx (.cf 1) [.t yS,.t uL],o yU .aB [.t sx],o s7 (.alloc 3 [vi 0]) [],⟨none,(.aU (.store 1)),[.t s7,.t yU],none⟩]) (.seq (.ops [o yV .aB [.t s6],o yW .aB [.t s6],o rX .cb [.t yW],o yX (.aL .sub) [.t rX,.c (vi 1)],o pQ (.slice 1 false true false) [.t yV,.t yX],⟨none,(.aU (.store 1)),[.t s6,.t pQ],none⟩]) (.seq (.ops [o wg (.bZ 7) [.t s2],o wh .aB [.t s7],⟨some uE,.call 86,[.t wg,.t wh],none⟩]) (.block 2 (.tr (.t uE) [xm,wR] (.seq (.ops [m s8 (.t xm)]) (.ops [m s9 (.t wR)])) (.block 3 (.seq (.seq (.ops [o yY .aB [.t s3],o yZ .aB [.t s7],m y6 (.t s8),m za (.t s9),⟨some zb,.dyn,[.t yY,.t yZ,.t y6,.t za],none⟩,o zc .ed [.t zb]]) (.cond (.t zc) (.seq (.ops [⟨none,(.aU (.store 1)),[.t s4,.c bJ],none⟩]) .ret) .skip)) (.seq (.ops [o wN .aB [.t s5],m wS (.t s8),o wL (.cf 1) [.t wN,.t wS],o wQ .aB [.t wL],o zd .ed [.t wQ]]) (.cond (.t zd) (.seq (.ops [o tj .aB [.t s5],m n8 (.t s8),o qg (.cf 1) [.t tj,.t n8],⟨none,(.aU (.store 1)),[.t qg,.c (.bool true)],none⟩]) (.ops [o ze .aB [.t s6],m xn (.t s8),o zf (.buildSlice 3 1 [vi 0] [(0,1)]) [.t xn],o zg (.append 3 1 [vi 0]) [.t ze,.t zf],⟨none,(.aU (.store 1)),[.t s6,.t zg],none⟩])) .skip))))))))))))) (.seq (.ops [o rm .aB [.t s5],⟨none,(.aU (.store 1)),[.t s4,.t rm],none⟩]) .ret)))))),false⟩
theorem e78:c7 PP 78=some KR:=by kernel_rfl
theorem e79:c7 PP 79=some (aF 79):=eL (by kernel_rfl)
theorem e80:c7 PP 80=some (aF 80):=eL (by kernel_rfl)
theorem e81:c7 PP 81=some (aF 81):=eL (by kernel_rfl)
theorem e82:c7 PP 82=some (aF 82):=eL (by kernel_rfl)
theorem e83:c7 PP 83=some (aF 83):=eL (by kernel_rfl)
theorem e84:c7 PP 84=some (aF 84):=eL (by kernel_rfl)
theorem e85:c7 PP 85=some (aF 85):=eL (by kernel_rfl)
theorem e86:c7 PP 86=some (aF 86):=eL (by kernel_rfl)
theorem e87:c7 PP 87=some (aF 87):=eL (by kernel_rfl)
theorem e93:c7 PP 93=some (aF 93):=eL (by kernel_rfl)
theorem e98:c7 PP 98=some (aF 98):=eL (by kernel_rfl)
theorem as2:c7 PP 100=some (aF 100):=eL (by kernel_rfl)
theorem atj:c7 PP 101=some (aF 101):=eL (by kernel_rfl)
theorem atM:c7 PP 102=some (aF 102):=eL (by kernel_rfl)
theorem atQ:c7 PP 103=some (aF 103):=eL (by kernel_rfl)
theorem atO:c7 PP 104=some (aF 104):=eL (by kernel_rfl)
theorem atz:c7 PP 105=some (aF 105):=eL (by kernel_rfl)
theorem atB:c7 PP 106=some (aF 106):=eL (by kernel_rfl)
theorem asY:c7 PP 115=some (aF 115):=eL (by kernel_rfl)
theorem asU:c7 PP 116=some (aF 116):=eL (by kernel_rfl)
theorem as4:c7 PP 117=some (aF 117):=eL (by kernel_rfl)
theorem as6:c7 PP 118=some (aF 118):=eL (by kernel_rfl)
theorem atc:c7 PP 119=some (aF 119):=eL (by kernel_rfl)
theorem ayZ:c7 PP 120=some (aF 120):=eL (by kernel_rfl)
theorem atq:c7 PP 121=some (aF 121):=eL (by kernel_rfl)
theorem atn:c7 PP 123=some (aF 123):=eL (by kernel_rfl)
theorem atl:c7 PP 124=some (aF 124):=eL (by kernel_rfl)
theorem as0:c7 PP 134=some (aF 134):=eL (by kernel_rfl)
theorem atx:c7 PP 135=some (aF 135):=eL (by kernel_rfl)
theorem asW:c7 PP 150=some (aF 150):=eL (by kernel_rfl)
theorem atu:c7 PP 155=some (aF 155):=eL (by kernel_rfl)
end Go.Ve.T
namespace Go.Ve
open Go.RowKit
noncomputable section
def Prim.Ur:Prim→Bool | .move=>true | _=>false
theorem Prim.ayq {p:Prim}(h:p.Ur=true):p= .move:=by
 unfold Prim.Ur at h;split at h
 · rfl
 · cases h
def Us (P:Program) (w0:World) (act:nH) (vs:ZZE) (E K:Z→W):W:=match act with | .aU p=>(match p.Ur,vs with | true,[x]=>K x | _,vs=>pr p vs K) | .call f=>cl P w0 f vs E K | .dyn=>dy P w0 vs E K | .panic=>pn vs E | _=>fun _=>False
def Im (P:Program) (w0:World) (o:cB) (σ:Sl) (E K:Z→W):W:=match o.guard with | none=>Us P w0 o.act (o.args.map (iq σ)) E K | some (g,want)=>gd (σ g) want (fun k=>Us P w0 o.act (o.args.map (iq σ)) E k) K
def Ut (P:Program) (w0:World):List cB→Sl→(Z→W)→(Sl→W)→W | [],σ,_,N=>N σ | o::l,σ,E,N=>Im P w0 o σ E fun v=>Ut P w0 l (σ.jg o.dst v) E N
def Uu (p:Prim) (vs:ZZE) (v:Z) (K:W):W:=bif p.makes then ckm p vs v K else ck p vs v K
def Uv (o:cB) (σ:Sl) (K:W):W:=match o.act,o.dst with | .aU p,some q=>(match o.guard with | none=>Uu p (o.args.map (iq σ)) (σ q) K | some (g,want)=>gk (σ g) want (fun k=>Uu p (o.args.map (iq σ)) (σ q) k) K) | _,_=>fun _=>False
def Mo (P:Program) (w0:World):List nI→Sl→(Z→W)→(Sl→W)→W | [],σ,_,N=>N σ | .op _ o::l,σ,E,N=>Im P w0 o σ E fun v=>Mo P w0 l (σ.jg o.dst v) E N | .mz _ o::l,σ,E,N=>Uv o σ (Mo P w0 l σ E N)
def Mq:List Pos→Type | []=>Unit | [_]=>Z | _::q::ps=>Z×Mq (q::ps)
def qw:(ps:List Pos)→Sl→Mq ps | [],_=>() | [p],σ=>σ p | p::q::ps,σ=>(σ p,qw (q::ps) σ)
def AY:(ps:List Pos)→Sl→Mq ps→Sl | [],σ,_=>σ | [p],σ,a=>σ.up p a | p::q::ps,σ,a=>(AY (q::ps) σ a.2).up p a.1
def nl:fw→Nat | .seq a b=>nl a+nl b | .cond _ a b=>nl a+nl b | .block _ c=>nl c | .loop c=>nl c+1 | _=>0
def cF (P:Program) (w0:World):fw→List (List Pos)→Sl→(Z→W)→(AX→Sl→W)→W
 | .skip,_,σ,_,X=>X .normal σ
 | .ops l,_,σ,E,X=>Ut P w0 l σ E (X .normal)
 | .draw l,_,σ,E,X=>Mo P w0 l σ E (X .normal)
 | .seq a b,L,σ,E,X=>cF P w0 a L σ E fun x σ=>match x with
  | .normal=>cF P w0 b (L.drop (nl a)) σ E X
  | x=>X x σ
 | .cond c a b,L,σ,E,X=>br (iq σ c) (cF P w0 a L σ E X) (cF P w0 b (L.drop (nl a)) σ E X)
 | .block id c,L,σ,E,X=>cF P w0 c L σ E fun x σ=>match x with
  | .exit j=>bif Nat.beq j id then X .normal σ else X (.exit j) σ
  | x=>X x σ
 | .loop c,L,σ,E,X=>(match L with
  | ps::L=>LP (α:=Mq ps) (fun k a=>cF P w0 c L (AY ps σ a) E fun x σ=>match x with
   | .normal=>k (qw ps σ)
   | x=>X x σ) (qw ps σ)
  | []=>fun _=>False)
 | .tr _ _ _ _,_,_,_,_=>fun _=>False
 | .exit id,_,σ,_,X=>X (.exit id) σ
 | .ret,_,σ,_,X=>X .ret σ
def eY (D:Nat) (p:Pos):Bool:=D.testBit p.un
def Mr (D:Nat) (p:Pos):Nat:=D ^^^ (D &&& (1 <<< p.un))
def adL (D:Nat):Option Pos→Nat | none=>D | some p=>Mr D p
def yL (D:Nat):Option Pos→Nat | none=>D | some p=>D ||| (1 <<< p.un)
def o9 (D:Nat):List Pos→Nat | []=>D | p::ps=>o9 (Mr D p) ps
def agree (D:Nat) (σ τ:Sl):Prop:=∀p,eY D p=false→σ p=τ p
theorem aml (p q:Pos):(1 <<< p.un).testBit q.un=decide (q=p):=by
 rw [Nat.one_shiftLeft,Nat.testBit_two_pow];exact decide_eq_decide.2 ⟨fun e=>(Pos.B2 e).symm,fun e=>by rw [e]⟩
theorem Uw (A B:Nat)(p:Pos):eY (A ||| B) p=(eY A p||eY B p):=Nat.testBit_or ..
theorem amm (D:Nat)(p q:Pos):eY (Mr D p) q=(eY D q&& !decide (q=p)):=by
 unfold eY Mr;rw [Nat.testBit_xor,Nat.testBit_and,aml];cases D.testBit q.un<;>cases decide (q=p)<;>rfl
theorem Io (D:Nat)(p q:Pos):eY (yL D (some p)) q=(eY D q||decide (q=p)):=by
 unfold eY yL;rw [Nat.testBit_or,aml]
theorem amn {q}:∀{ps:List Pos}{D:Nat},eY (o9 D ps) q=(eY D q&& !decide (q∈ps))
 | [],D=>by simp [o9]
 | p::ps,D=>by
  rw [o9,amn,amm]
  by_cases e:q=p<;>simp [e]
theorem agree.or {A B σ τ}(h:agree A σ τ):agree (A ||| B) σ τ:=fun p hp=>h p (by rw [Uw,za4]at hp;exact hp.1)
theorem agree.or' {A B σ τ}(h:agree B σ τ):agree (A ||| B) σ τ:=fun p hp=>h p (by rw [Uw,za4]at hp;exact hp.2)
theorem Sl.CK (σ:Sl)(p q:Pos)(v:Z):σ.up p v q=if q=p then v else σ q:=by
 unfold Sl.up
 by_cases e:q=p
 · rw [if_pos e,Pos.beq_iff.2 e.symm];rfl
 · rw [if_neg e];cases h:p.beq q with
   | false=>rfl
   | true=>exact absurd (Pos.beq_iff.1 h).symm e
theorem agree.up {D σ τ}(h:agree D σ τ):∀(d:Option Pos) (v:Z),agree (adL D d) (σ.jg d v) (τ.jg d v)
 | none,_=>h
 | some p,v=>fun q hq=>by
  show σ.up p v q=τ.up p v q;rw [Sl.CK,Sl.CK]
  by_cases e:q=p
  · rw [if_pos e,if_pos e]
  · rw [if_neg e,if_neg e];refine h q ?_;have hq:eY (Mr D p) q=false:=hq;rw [amm]at hq;simpa [e]using hq
structure Out where
 n:Option Nat
 r:Option Nat
 x:List (Nat×Nat)
def jO:Option Nat→Option Nat→Option Nat | none,b=>b | a,none=>a | some a,some b=>some (a ||| b)
def Ip (D:Nat):gp→Bool | .t p=> !eY D p | .c _=>true
def yM (D:Nat) (o:cB):Bool:=o.args.all (Ip D)&&(match o.guard with | none=>true | some (g,_)=> !eY D g)
def Ms:List cB→Nat→Option Nat | [],D=>some D | o::l,D=>bif yM D o then Ms l (adL D o.dst)else none
def FI:List nI→Nat→Option Nat | [],D=>some D | .op _ o::l,D=>bif yM D o then FI l (adL D o.dst)else none | .mz _ o::l,D=>bif yM D o&&(match o.dst with | none=>true | some q=> !eY D q)then FI l D else none
def CL:List cB→Nat→Nat | [],D=>D | o::l,D=>CL l (yL D o.dst)
def xj:List nI→Nat→Nat | [],D=>D | .op _ o::l,D=>xj l (yL D o.dst) | .mz _ _::l,D=>xj l D
def wr:fw→Nat→Nat | .ops l,D=>CL l D | .draw l,D=>xj l D | .seq a b,D=>wr b (wr a D) | .cond _ a b,D=>wr b (wr a D) | .block _ c,D=>wr c D | .loop c,D=>wr c D | _,D=>D
def AZ (id:Nat):List (Nat×Nat)→Option Nat | []=>none | (j,D)::l=>bif Nat.beq j id then jO (some D) (AZ id l)else AZ id l
def Iq (id:Nat):List (Nat×Nat)→List (Nat×Nat) | []=>[] | (j,D)::l=>bif Nat.beq j id then Iq id l else(j,D)::Iq id l
def Out.ofN:Option Nat→Option Out | none=>none | some D=>some ⟨some D,none,[]⟩
def ayr (ra:Out) (rb:Option Out):Option Out:=match rb with | none=>none | some rb=>some ⟨rb.n,jO ra.r rb.r,ra.x++rb.x⟩
def amo:Option Out→Option Out→Option Out | some ra,some rb=>some ⟨jO ra.n rb.n,jO ra.r rb.r,ra.x++rb.x⟩ | _,_=>none
def ays (id:Nat):Option Out→Option Out | none=>none | some r=>some ⟨jO r.n (AZ id r.x),r.r,Iq id r.x⟩
def A7 (D:Nat):List Pos→Bool | []=>true | p::ps=> !eY D p&&A7 D ps
def Ir (D:Nat):List Pos→Bool | []=>true | p::ps=>eY D p&&Ir D ps
def Ux (ps:List Pos) (D0:Nat):Option Out→Option Out | none=>none | some r=>(match r.n with | none=>some ⟨none,r.r,r.x⟩ | some D1=>bif A7 D1 ps&&Nat.beq (D1 ||| D0) D0 then some ⟨none,r.r,r.x⟩else none)
def mj:fw→List (List Pos)→Nat→Option Out | .skip,_,D=>some ⟨some D,none,[]⟩ | .ops l,_,D=>Out.ofN (Ms l D) | .draw l,_,D=>Out.ofN (FI l D) | .seq a b,L,D=>(match mj a L D with | none=>none | some ra=>(match ra.n with | none=>some ra | some D1=>ayr ra (mj b (L.drop (nl a)) D1))) | .cond c a b,L,D=>bif Ip D c then amo (mj a L D) (mj b (L.drop (nl a)) D)else none | .block id c,L,D=>ays id (mj c L D) | .loop c,L,D=>(match L with | []=>none | ps::L=>bif A7 D ps&&Ir (wr c 0) ps then Ux ps (D ||| o9 (wr c 0) ps) (mj c L (D ||| o9 (wr c 0) ps))else none) | .exit id,_,D=>some ⟨none,none,[(id,D)]⟩ | .ret,_,D=>some ⟨none,some D,[]⟩ | .tr _ _ _ _,_,_=>none
def Out.at (r:Out) (x:AX) (D:Nat):Prop:=match x with | .normal=>r.n=some D | .ret=>r.r=some D | .exit id=>(id,D)∈r.x | .bC _=>False
theorem Mt {a b A}(h:a=some A):∃B,jO a b=some (A ||| B)∧(b=none→B=0):=by
 subst h;cases b with
 | none=>exact⟨0,by simp [jO],fun _=>rfl⟩
 | some b=>exact⟨b,rfl,fun h=>by cases h⟩
theorem Mu {a b B}(h:b=some B):∃A,jO a b=some (A ||| B):=by
 subst h;cases a with
 | none=>exact⟨0,by simp [jO]⟩
 | some a=>exact⟨a,rfl⟩
theorem Uy {p}:∀{l:List cB}{D:Nat},eY (CL l D) p=(eY D p||eY (CL l 0) p)
 | [],D=>by simp [CL,eY]
 | o::l,D=>by
  rw [CL,CL,Uy,Uy (D:=yL 0 o.dst),←Bool.or_assoc]
  congr 1
  cases o.dst with
  | none=>simp [yL,eY]
  | some q=>rw [Io,Io];simp [eY]
theorem Mv {p}:∀{l:List nI}{D:Nat},eY (xj l D) p=(eY D p||eY (xj l 0) p)
 | [],D=>by simp [xj,eY]
 | .mz _ _::l,D=>by rw [xj,xj,Mv]
 | .op _ o::l,D=>by
  rw [xj,xj,Mv,Mv (D:=yL 0 o.dst),←Bool.or_assoc]
  congr 1
  cases o.dst with
  | none=>simp [yL,eY]
  | some q=>rw [Io,Io];simp [eY]
theorem ayt (p:Pos):eY 0 p=false:=by simp [eY]
theorem ayu {p}:∀(c:fw) (D:Nat),eY (wr c D) p=(eY D p||eY (wr c 0) p):=by
 intro c
 induction c with
 | ops l=>exact fun D=>Uy
 | draw l=>exact fun D=>Mv
 | seq a b o7 om=>intro D;simp only [wr];rw [om,om (wr a 0),o7,Bool.or_assoc]
 | cond c a b o7 om=>intro D;simp only [wr];rw [om,om (wr a 0),o7,Bool.or_assoc]
 | block id c ih=>exact ih
 | loop c ih=>exact ih
 | _=>intro D;simp only [wr];rw [ayt,Bool.or_false]
def bt (c:fw) (σ σ':Sl):Prop:=∀p,eY (wr c 0) p=false→σ' p=σ p
theorem Is {a b p}(h:eY (wr b (wr a 0)) p=false):eY (wr a 0) p=false∧eY (wr b 0) p=false:=by
 rw [ayu]at h;exact Bool.or_eq_false_iff.1 h
theorem adM {D p}:∀{ps:List Pos},A7 D ps=true→p∈ps→eY D p=false
 | q::ps,h,hp=>by
  rw [A7,zae]at h;rcases List.mem_cons.1 hp with rfl | hp
  · simpa using h.1
  · exact adM h.2 hp
theorem amp {D p}:∀{ps:List Pos},Ir D ps=true→p∈ps→eY D p=true
 | q::ps,h,hp=>by
  rw [Ir,zae]at h;rcases List.mem_cons.1 hp with rfl | hp
  · exact h.1
  · exact amp h.2 hp
theorem adN {σ τ}:∀{ps:List Pos},(∀p∈ps,σ p=τ p)→qw ps σ=qw ps τ
 | [],_=>rfl
 | [p],h=>h p (by simp)
 | p::q::ps,h=>by
  show(σ p,qw (q::ps) σ)=(τ p,qw (q::ps) τ);rw [h p (by simp),adN fun x hx=>h x (zaj _ hx)]
theorem amq {σ τ x}:∀{ps:List Pos},x∈ps→AY ps σ (qw ps τ) x=τ x
 | [p],h=>by
  obtain rfl:=List.mem_singleton.1 h;show σ.up x (τ x) x=τ x;rw [Sl.CK,if_pos rfl]
 | p::q::ps,h=>by
  show(AY (q::ps) σ (qw (q::ps) τ)).up p (τ p) x=τ x;rw [Sl.CK]
  by_cases e:x=p
  · rw [if_pos e,e]
  · rw [if_neg e];exact amq ((List.mem_cons.1 h).resolve_left e)
theorem adO {σ x}:∀{ps:List Pos}{a:Mq ps},x∉ps→AY ps σ a x=σ x
 | [],_,_=>rfl
 | [p],a,h=>by
  exact(Sl.CK σ p x a).trans (if_neg (by simpa using h))
 | p::q::ps,a,h=>by
  show(AY (q::ps) σ a.2).up p a.1 x=σ x;rw [Sl.CK,if_neg fun e=>h (by simp [e]),adO fun hx=>h (zaj _ hx)]
section
variable {P:Program}{w0:World}{e:Env}{d:DS}
theorem amr {D σ τ}(h:agree D σ τ){o:gp}(ho:Ip D o=true):iq σ o=iq τ o:=by
 cases o with
 | t p=>exact h p (by simpa [Ip]using ho)
 | c v=>rfl
theorem adP {D σ τ}(h:agree D σ τ):∀{l:List gp},l.all (Ip D)=true→l.map (iq σ)=l.map (iq τ)
 | [],_=>rfl
 | o::l,hl=>by
  rw [List.all_cons,zae]at hl;rw [zaW,zaW,adP h hl.2,amr h hl.1]
theorem ams {D σ τ}(h:agree D σ τ){o:cB}(ho:yM D o=true){E K:Z→W}:Im P w0 o σ E K=Im P w0 o τ E K:=by
 obtain⟨dst,act,args,g⟩:=o;rw [yM,zae]at ho;unfold Im;simp only;rw [adP h ho.1];cases g with
 | none=>rfl
 | some pw=>
  obtain⟨g,want⟩:=pw;have h2:eY D g=false:=by simpa using ho.2
  simp only [h g h2]
theorem amt {act:nH}{dst:Option Pos}{vs:List Value}{σ:Sl}{h:AH}{E K:Value→W}{Q:PQ}{K':Sl→DS→AH→Prop}(H:Us P w0 act vs E K h)(hE:∀v h,E v h→Q (.bC v) σ d h)(hK:∀v h,K v h→K' (σ.jg dst v) d h):nQ P w0 act dst e σ d h vs Q K':=by
 cases act with
 | aU p=>
  simp only [Us]at H
  revert H
  cases hp:p.Ur with
  | false=>exact fun H=>Mn (e:=e) (Q:=Q) H hK
  | true=>
   match vs with
   | []=>exact fun H=>Mn (e:=e) (Q:=Q) H hK
   | [x]=>intro H;rw [Prim.ayq hp];exact fun k hk=>hk _ _ (hK _ _ H)
   | _::_::_=>exact fun H=>Mn (e:=e) (Q:=Q) H hK
 | call f=>exact Uj H hE hK
 | dyn=>exact al8 H hE hK
 | panic=>exact ax2 H hE
 | _=>exact H.elim
theorem amu {o σ h E K Q K'}(H:Im P w0 o σ E K h)(hE:∀v h,E v h→Q (.bC v) σ d h)(hK:∀v h,K v h→K' (σ.jg o.dst v) d h):wpOp P w0 o e σ d h Q K':=by
 obtain⟨dst,act,args,g⟩:=o;cases g with
 | none=>exact amt H hE hK
 | some pw=>exact Uk rfl H (fun H=>amt H hE hK) hK
theorem ayv {E N Q}(hE:∀v σ h,E v h→Q (.bC v) σ d h):∀{l:List cB}{D D':Nat}{σm σ:Sl}{h:AH},Ms l D=some D'→agree D σm σ→Ut P w0 l σm E N h→
 (∀σm' σ' h,agree D' σm' σ'→bt (.ops l) σm σm'→N σm' h→Q .normal σ' d h)→wpOps P w0 l e σ d h Q:=by
 intro l
 induction l with
 | nil=>
  intro D D' σm σ h hc ha H hN;obtain rfl:=zaL hc;exact hN _ _ _ ha (fun _ _=>rfl) H
 | cons o l ih=>
  intro D D' σm σ h hc ha H hN;unfold Ms at hc;cases ho:yM D o with
  | false=>rw [ho]at hc;cases hc
  | true=>
   rw [ho]at hc;unfold Ut at H;rw [ams ha ho]at H;refine amu H (fun v h=>hE v σ h) fun v h H=>ih hc (ha.up o.dst v) H fun σm' σ' h h1 h2 h3=>hN _ _ _ h1 (fun p hp=>?_) h3
   have hp:eY (CL l (yL 0 o.dst)) p=false:=hp;rw [Uy,za4]at hp;rw [h2 p hp.2]
   revert hp
   cases o.dst with
   | none=>exact fun _=>rfl
   | some q=>
    intro hp;have h4:=hp.1;rw [Io,za4]at h4;show σm.up q v p=σm p;rw [Sl.CK,if_neg (by simpa using h4.2)]
theorem ayw {D o σm σ h K}(ho:yM D o=true)(hd:(match o.dst with
 | none=>true
 | some q=> !eY D q)=true) (ha:agree D σm σ) (H:Uv o σm K h):FA o σ h∧K h:=by
 obtain⟨dst,act,args,g⟩:=o;rw [yM,zae]at ho;have e1:=adP ha ho.1;cases act with
 | aU p=>
  cases dst with
  | none=>exact H.elim
  | some q=>
   have e2:σm q=σ q:=ha q (by simpa using hd)
   have cc:Uu p (args.map (iq σ)) (σ q) K h→CA (.aU p) (some q) (args.map (iq σ)) σ h∧K h:=by
    unfold Uu CA;simp only;cases p.makes with
    | true=>exact id
    | false=>exact id
   cases g with
   | none=>
    simp only [Uv,e1,e2]at H;exact cc H
   | some pw=>
    obtain⟨g,want⟩:=pw;have e3:σm g=σ g:=ha g (by simpa using ho.2);simp only [Uv,e1,e2,e3]at H;exact ax3 rfl H cc
 | _=>cases dst<;>exact H.elim
theorem ayx {E N Q}(hE:∀v σ h,E v h→Q (.bC v) σ d h):∀{l:List nI}{D D':Nat}{σm σ:Sl}{h:AH},FI l D=some D'→agree D σm σ→Mo P w0 l σm E N h→
 (∀σm' σ' h,agree D' σm' σ'→bt (.draw l) σm σm'→N σm' h→Q .normal σ' d h)→o6 P w0 l e σ d h Q:=by
 intro l
 induction l with
 | nil=>
  intro D D' σm σ h hc ha H hN;obtain rfl:=zaL hc;exact hN _ _ _ ha (fun _ _=>rfl) H
 | cons o l ih=>
  intro D D' σm σ h hc ha H hN;cases o with
  | mz i o=>
   unfold FI at hc
   cases ho:(yM D o&&(match o.dst with
    | none=>true
    | some q=> !eY D q))with
   | false=>rw [ho]at hc;cases hc
   | true=>
    rw [ho]at hc;rw [zae]at ho;have H2:=ayw ho.1 ho.2 ha H;exact⟨H2.1,ih hc ha H2.2 hN⟩
  | op i o=>
   unfold FI at hc;cases ho:yM D o with
   | false=>rw [ho]at hc;cases hc
   | true=>
    rw [ho]at hc;unfold Mo at H;rw [ams ha ho]at H;refine amu H (fun v h=>hE v σ h) fun v h H=>ih hc (ha.up o.dst v) H fun σm' σ' h h1 h2 h3=>hN _ _ _ h1 (fun p hp=>?_) h3
    have hp:eY (xj l (yL 0 o.dst)) p=false:=hp;rw [Mv,za4]at hp;rw [h2 p hp.2]
    revert hp
    cases o.dst with
    | none=>exact fun _=>rfl
    | some q=>
     intro hp;have h4:=hp.1;rw [Io,za4]at h4;show σm.up q v p=σm p;rw [Sl.CK,if_neg (by simpa using h4.2)]
theorem amv {id D}:∀{l:List (Nat×Nat)}{j:Nat},(j,D)∈l→Nat.beq j id=true→∃G,AZ id l=some G∧∀σ τ:Sl,agree D σ τ→agree G σ τ
 | (i,A)::l,j,hm,hj=>by
  rcases List.mem_cons.1 hm with e | hm
  · obtain⟨rfl,rfl⟩:=Prod.mk.inj e;obtain⟨B,hB,_⟩:=Mt (a:=some D) (b:=AZ id l) rfl;exact⟨_,by rw [AZ,hj];exact hB,fun σ τ h=>h.or⟩
  · obtain⟨G,h1,h2⟩:=amv hm hj;cases hi:Nat.beq i id with
    | false=>exact⟨G,by rw [AZ,hi];exact h1,h2⟩
    | true=>
     obtain⟨A',hA⟩:=Mu (a:=some A) h1;exact⟨_,by rw [AZ,hi];exact hA,fun σ τ h=>(h2 σ τ h).or'⟩
theorem amw {id D}:∀{l:List (Nat×Nat)}{j:Nat},(j,D)∈l→Nat.beq j id=false→(j,D)∈Iq id l
 | (i,A)::l,j,hm,hj=>by
  rcases List.mem_cons.1 hm with e | hm
  · obtain⟨rfl,rfl⟩:=Prod.mk.inj e;rw [Iq,hj];exact zai
  · have:=amw hm hj;rw [Iq];cases Nat.beq i id with
    | true=>exact this
    | false=>exact zaj _ this
theorem ayy (cq:P.follows .mixedOrders=true):∀(c:fw){L:List (List Pos)}{D:Nat}{r:Out}{σm σ:Sl}{h:AH}{E:Z→W}{X:AX→Sl→W}{Q:PQ},mj c L D=some r→agree D σm σ→cF P w0 c L σm E X h→
 (∀v σ h,E v h→Q (.bC v) σ d h)→(∀x D' σm' σ' h,r.at x D'→agree D' σm' σ'→bt c σm σm'→X x σm' h→Q x σ' d h)→gM P w0 c e σ d h Q:=by
 intro c
 induction c with
 | skip=>
  intro L D r σm σ h E X Q hc ha H hE hX;obtain rfl:=Option.some.inj hc;exact hX .normal D _ _ _ rfl ha (fun _ _=>rfl) H
 | ops l=>
  intro L D r σm σ h E X Q hc ha H hE hX;unfold mj at hc;cases hD:Ms l D with
  | none=>rw [hD]at hc;cases hc
  | some D'=>
   rw [hD]at hc;obtain rfl:=Option.some.inj hc;exact ayv hE hD ha H fun σm' σ' h h1 h2 h3=>hX .normal D' _ _ _ rfl h1 h2 h3
 | draw l=>
  intro L D r σm σ h E X Q hc ha H hE hX;unfold mj at hc;cases hD:FI l D with
  | none=>rw [hD]at hc;cases hc
  | some D'=>
   rw [hD]at hc;obtain rfl:=Option.some.inj hc;exact ayx hE hD ha H fun σm' σ' h h1 h2 h3=>hX .normal D' _ _ _ rfl h1 h2 h3
 | seq a b o7 om=>
  intro L D r σm σ h E X Q hc ha H hE hX;unfold mj at hc;cases hA:mj a L D with
  | none=>rw [hA]at hc;cases hc
  | some ra=>
   rw [hA]at hc;simp only at hc;cases hn:ra.n with
   | none=>
    rw [hn]at hc;obtain rfl:=Option.some.inj hc;refine o7 hA ha H hE fun x D' σm' σ' h h1 h2 h3 h4=>?_;have hk:bt (.seq a b) σm σm':=fun p hp=>h3 p (Is hp).1
    cases x with
    | normal=>exact absurd (hn.symm.trans h1) nofun
    | ret=>exact hX .ret D' _ _ _ h1 h2 hk h4
    | exit id=>exact hX (.exit id) D' _ _ _ h1 h2 hk h4
    | bC v=>exact h1.elim
   | some D1=>
    rw [hn]at hc;simp only at hc;cases hB:mj b (L.drop (nl a)) D1 with
    | none=>rw [hB]at hc;cases hc
    | some rb=>
     rw [hB]at hc;obtain rfl:=Option.some.inj hc;refine o7 hA ha H hE fun x D' σm' σ' h h1 h2 h3 h4=>?_;have hk:bt (.seq a b) σm σm':=fun p hp=>h3 p (Is hp).1
     cases x with
     | normal=>
      obtain rfl:=Option.some.inj (hn.symm.trans h1);refine om hB h2 h4 hE fun x D' σm2 σ2 h g1 g2 g3 g4=>?_;have Lt:bt (.seq a b) σm σm2:=fun p hp=>(g3 p (Is hp).2).trans (h3 p (Is hp).1)
      cases x with
      | normal=>exact hX .normal D' _ _ _ g1 g2 Lt g4
      | ret=>
       obtain⟨A,hA⟩:=Mu (a:=ra.r) g1;exact hX .ret _ _ _ _ hA g2.or' Lt g4
      | exit id=>exact hX (.exit id) D' _ _ _ (List.mem_append_right _ g1) g2 Lt g4
      | bC v=>exact g1.elim
     | ret=>
      obtain⟨B,hB,_⟩:=Mt (b:=rb.r) h1;exact hX .ret _ _ _ _ hB h2.or hk h4
     | exit id=>exact hX (.exit id) D' _ _ _ (List.mem_append_left _ h1) h2 hk h4
     | bC v=>exact h1.elim
 | cond o a b o7 om=>
  intro L D r σm σ h E X Q hc ha H hE hX;unfold mj at hc;cases ho:Ip D o with
  | false=>rw [ho]at hc;cases hc
  | true=>
   rw [ho]at hc;have hc:amo (mj a L D) (mj b (L.drop (nl a)) D)=some r:=hc;cases hA:mj a L D with
   | none=>rw [hA]at hc;cases hc
   | some ra=>
    cases hB:mj b (L.drop (nl a)) D with
    | none=>rw [hA,hB]at hc;cases hc
    | some rb=>
     rw [hA,hB]at hc;obtain rfl:=Option.some.inj hc;unfold cF at H;rw [amr ha ho]at H;refine mT rfl H (fun H=>o7 hA ha H hE fun x D' σm' σ' h h1 h2 h3 h4=>?_) (fun H=>om hB ha H hE fun x D' σm' σ' h h1 h2 h3 h4=>?_)
     · have hk:bt (.cond o a b) σm σm':=fun p hp=>h3 p (Is hp).1
       cases x with
       | normal=>
        obtain⟨B,hB,_⟩:=Mt (b:=rb.n) h1;exact hX .normal _ _ _ _ hB h2.or hk h4
       | ret=>
        obtain⟨B,hB,_⟩:=Mt (b:=rb.r) h1;exact hX .ret _ _ _ _ hB h2.or hk h4
       | exit id=>exact hX (.exit id) D' _ _ _ (List.mem_append_left _ h1) h2 hk h4
       | bC v=>exact h1.elim
     · have hk:bt (.cond o a b) σm σm':=fun p hp=>h3 p (Is hp).2
       cases x with
       | normal=>
        obtain⟨A,hA⟩:=Mu (a:=ra.n) h1;exact hX .normal _ _ _ _ hA h2.or' hk h4
       | ret=>
        obtain⟨A,hA⟩:=Mu (a:=ra.r) h1;exact hX .ret _ _ _ _ hA h2.or' hk h4
       | exit id=>exact hX (.exit id) D' _ _ _ (List.mem_append_right _ h1) h2 hk h4
       | bC v=>exact h1.elim
 | block id c ih=>
  intro L D r σm σ h E X Q hc ha H hE hX;unfold mj at hc;cases hC:mj c L D with
  | none=>rw [hC]at hc;cases hc
  | some rc=>
   rw [hC]at hc;obtain rfl:=Option.some.inj hc;refine ih hC ha H hE fun x D' σm' σ' h h1 h2 h3 h4=>?_;cases x with
   | normal=>
    obtain⟨B,hB,_⟩:=Mt (b:=AZ id rc.x) h1;exact hX .normal _ _ _ _ hB h2.or h3 h4
   | ret=>exact hX .ret D' _ _ _ h1 h2 h3 h4
   | exit j=>
    have h4:(bif Nat.beq j id then X .normal σm' else X (.exit j) σm') h:=h4;show bif Nat.beq j id then Q .normal σ' d h else Q (.exit j) σ' d h
    cases hj:Nat.beq j id with
    | true=>
     rw [hj]at h4;obtain⟨G,hG,hm⟩:=amv h1 hj;obtain⟨A,hA⟩:=Mu (a:=rc.n) hG;exact hX .normal _ _ _ _ hA (hm _ _ h2).or' h3 h4
    | false=>
     rw [hj]at h4;exact hX (.exit j) D' _ _ _ (amw h1 hj) h2 h3 h4
   | bC v=>exact h1.elim
 | loop c ih=>
  intro L D r σm σ h E X Q hc ha H hE hX;cases L with
  | nil=>cases hc
  | cons ps L=>
   have hc:(bif A7 D ps&&Ir (wr c 0) ps then Ux ps (D ||| o9 (wr c 0) ps) (mj c L (D ||| o9 (wr c 0) ps))else none)=some r:=hc;cases jL:A7 D ps&&Ir (wr c 0) ps with
   | false=>rw [jL]at hc;cases hc
   | true=>
    rw [jL]at hc;have hc:Ux ps (D ||| o9 (wr c 0) ps) (mj c L (D ||| o9 (wr c 0) ps))=some r:=hc;rw [Bool.and_eq_true]at jL;cases hC:mj c L (D ||| o9 (wr c 0) ps)with
    | none=>rw [hC]at hc;cases hc
    | some rc=>
     rw [hC]at hc
     have fit:∀σ',(∀p,eY (D ||| o9 (wr c 0) ps) p=false→p∉ps→σm p=σ' p)→agree (D ||| o9 (wr c 0) ps) (AY ps σm (qw ps σ')) σ':=fun σ' hh p hp=>by
      by_cases hm:p∈ps
      · exact amq hm
      · rw [adO hm];exact hh p hp hm
     have out:∀p,eY (D ||| o9 (wr c 0) ps) p=false→p∉ps→eY D p=false∧eY (wr c 0) p=false:=fun p hp hm=>by
      rw [Uw,Bool.or_eq_false_iff,amn]at hp;exact⟨hp.1,by simpa [hm]using hp.2⟩
     have hrx:r.r=rc.r∧r.x=rc.x∧∀D1,rc.n=some D1→A7 D1 ps=true∧Nat.beq (D1 ||| (D ||| o9 (wr c 0) ps)) (D ||| o9 (wr c 0) ps)=true:=by
      unfold Ux at hc;simp only at hc;cases hn:rc.n with
      | none=>
       rw [hn]at hc;obtain rfl:=Option.some.inj hc;exact⟨rfl,rfl,nofun⟩
      | some D1=>
       rw [hn]at hc;simp only at hc;cases ht:A7 D1 ps&&Nat.beq (D1 ||| (D ||| o9 (wr c 0) ps)) (D ||| o9 (wr c 0) ps)with
       | false=>rw [ht]at hc;cases hc
       | true=>
        rw [ht]at hc;obtain rfl:=Option.some.inj hc;exact⟨rfl,rfl,fun D2 h2=>by obtain rfl:=Option.some.inj h2;exact Bool.and_eq_true_iff.1 ht⟩
     obtain⟨n,H⟩:=H
     have key:∀n σh h,agree (D ||| o9 (wr c 0) ps) (AY ps σm (qw ps σh)) σh→gg (fun k a=>cF P w0 c L (AY ps σm a) E fun x σ=>match x with
      | .normal=>k (qw ps σ)
      | x=>X x σ) n (qw ps σh) h→WC P w0 (.loop c) e σh d h Q:=by
      intro n
      induction n with
      | zero=>intro σh h _ H;exact H.elim
      | succ n ihn=>
       intro σh h hh H;refine acW cq (ih hC hh H hE fun x D' σm' σ' h h1 h2 h3 h4=>?_)
       have hk:bt (.loop c) σm σm':=fun p hp=>(h3 p hp).trans (adO fun hm=>by
        have:=amp jL.2 hm;rw [show eY (wr c 0) p=false from hp]at this;cases this)
       cases x with
       | normal=>
        obtain⟨q1,q2⟩:=hrx.2.2 D' h1;have e1:qw ps σm'=qw ps σ':=adN fun p hp=>h2 p (adM q1 hp)
        refine ihn σ' h (fit σ' fun p hp hm=>?_) (e1▸h4);rw [←hk p (out p hp hm).2];refine h2 p ?_;have e2:=Nat.eq_of_beq_eq_true q2;rw [←e2,Uw,Bool.or_eq_false_iff]at hp;exact hp.1
       | ret=>exact hX .ret D' _ _ _ (hrx.1.trans h1) h2 hk h4
       | exit id=>exact hX (.exit id) D' _ _ _ (show(id,D')∈r.x by rw [hrx.2.1];exact h1) h2 hk h4
       | bC v=>exact h1.elim
     have e0:qw ps σm=qw ps σ:=adN fun p hp=>ha p (adM jL.1 hp)
     exact key n σ h (fit σ fun p hp hm=>ha p (out p hp hm).1) (e0▸H)
 | tr f ps a b o7 om=>
  intro L D r σm σ h E X Q hc;cases hc
 | exit id=>
  intro L D r σm σ h E X Q hc ha H hE hX;obtain rfl:=Option.some.inj hc;exact hX (.exit id) D _ _ _ (List.mem_singleton.2 rfl) ha (fun _ _=>rfl) H
 | ret=>
  intro L D r σm σ h E X Q hc ha H hE hX;obtain rfl:=Option.some.inj hc;exact hX .ret D _ _ _ rfl ha (fun _ _=>rfl) H
def yN (D:Nat):List qV→Bool | []=>true | .tmp p::rs=> !eY D p&&yN D rs | .cell p _::rs=> !eY D p&&yN D rs
theorem Mw {D σ τ}(ha:agree D σ τ){h:AH}:∀{rs:List qV}{K:ZZE→Prop},yN D rs=true→sj rs σ h K=sj rs τ h K
 | [],_,_=>rfl
 | .tmp p::rs,K,hd=>by
  rw [yN,zae]at hd;unfold sj;rw [ha p (by simpa using hd.1),Mw ha hd.2]
 | .cell p none::rs,K,hd=>by
  rw [yN,zae]at hd;unfold sj;rw [ha p (by simpa using hd.1)]
  congr 1
  funext v h'
  rw [Mw ha hd.2]
 | .cell p (some n)::rs,K,hd=>by
  rw [yN,zae]at hd;unfold sj;rw [ha p (by simpa using hd.1)]
  congr 1
  funext v h'
  rw [Mw ha hd.2]
def fnD (af:lv) (L:List (List Pos)):Bool:=match mj af.code L 0 with | none=>false | some r=>(match r.n with | none=>true | some D=>yN D af.results)&&(match r.r with | none=>true | some D=>yN D af.results)
theorem fm (cq:P.follows .mixedOrders=true){f:FuncId}{af:lv}(hf:c7 P f=some af)(L:List (List Pos))(hd:fnD af L=true){args:ZZE}{h:AH}{R:CR→AH→Prop}
 (H:cF P w0 af.code L (T1 args) (fun v h=>R (.bC v) h) (fun x σ h=>Mk P w0 af.results R x σ ⟨[],.off⟩ h) h):WF P w0 f args h R:=by
 refine Ky cq hf ?_;unfold fnD at hd;cases hc:mj af.code L 0 with
 | none=>rw [hc]at hd;cases hd
 | some r=>
  rw [hc]at hd;simp only [zae]at hd;refine ayy cq af.code hc (fun _ _=>rfl) H (fun v σ h hv=>hv) fun x D' σm' σ' h h1 h2 _ h4=>?_;cases x with
  | normal=>
   have h5:yN D' af.results=true:=by have:=hd.1;rw [show r.n=some D' from h1]at this;exact this
   have h4:sj af.results σm' h fun vs=>R (.ret (FC vs)) h:=h4
   rw [Mw h2 h5]at h4;exact h4
  | ret=>
   have h5:yN D' af.results=true:=by have:=hd.2;rw [show r.r=some D' from h1]at this;exact this
   have h4:sj af.results σm' h fun vs=>R (.ret (FC vs)) h:=h4
   rw [Mw h2 h5]at h4;exact h4
  | exit id=>exact h4.elim
  | bC v=>exact h1.elim
end
end
end Go.Ve
namespace Go.Ve.T
open Go.Ve Go.Proofs
abbrev ZZF:=Value→W
noncomputable section
set_option maxRecDepth 10000
def Xy (w0:World) (E R:ZZF) (x0 x1 x2:Z):W:=pr (.aL .leq) [x1,x0] fun v1=>gd v1 true (fun k=>k x0) fun v2=>gd v1 true (fun k=>k x2) fun v3=>gd v1 true (fun k=>pr (.aL .leq) [v2,v3] k) fun v4=>pr .pick [v1,v4,.bool false] fun v5=>R v5
theorem ahG {w0 h Q}(x0 x1 x2:Z)(H:Xy w0 (fun v h=>Q (.bC v) h) (fun v h=>Q (.ret v) h) x0 x1 x2 h):WF PP w0 j5 [x0,x1,x2] h Q:=
 fm cq e75 [] (by kernel_rfl) (Eq.mp (by kernel_rfl) H)
def ahH (w0:World) (E R:ZZF) (x0:Z):W:=pr .Xz [x0] fun v1=>cl PP w0 j5 [v1,vi 1,vi 20] E fun v2=>R v2
def ahI (w0:World) (E R:ZZF) (k4:W) (fE:Z):W:=br fE (R (.bool false)) (k4)
def ahJ (w0:World) (E R:ZZF) (v7:Z) (k4:W) (v20:Z):W:=gd v20 true (fun k=>k v7) fun v21=>gd v20 true (fun k=>pr (.aL .neq) [v21,.int .i32 95] k) fun gX=>pr .pick [v20,gX,.bool false] fun fE=>ahI w0 E R k4 fE
def ahK (w0:World) (E R:ZZF) (v7:Z) (k4:W) (b9:Z):W:=gd b9 true (fun k=>k v7) fun dr=>gd b9 true (fun k=>pr (.conv .i64) [dr] k) fun dc=>gd b9 true (fun k=>cl PP w0 j5 [dc,vi 48,vi 57] E k) fun aq=>gd b9 true (fun k=>pr .ed [aq] k) fun dS=>pr .pick [b9,dS,.bool false] fun v20=>ahJ w0 E R v7 k4 v20
def XA (w0:World) (E R:ZZF) (v5:Z) (k4:W):W:=pr (.extract 2) [v5] fun v7=>pr (.conv .i64) [v7] fun v8=>cl PP w0 j5 [v8,vi 97,vi 122] E fun v9=>pr .ed [v9] fun v10=>gd v10 true (fun k=>k v7) fun v11=>gd v10 true (fun k=>pr (.conv .i64) [v11] k) fun v12=>gd v10 true (fun k=>cl PP w0 j5 [v12,vi 65,vi 90] E k) fun bW=>gd v10 true (fun k=>pr .ed [bW] k) fun cD=>pr .pick [v10,cD,.bool false] fun b9=>ahK w0 E R v7 k4 b9
def ahL (w0:World) (E R:ZZF) (v3 x0:Z) (k4:W):W:=pr .BV [v3] fun v5=>pr (.extract 0) [v5] fun v6=>br v6 (XA w0 E R v5 k4) (ahH w0 E R x0)
def ahM (w0:World) (E R:ZZF) (x0:Z):W:=pr .Ks [x0] fun v3=>LP (α:=Unit) (fun k a=>ahL w0 E R v3 x0 (k ())) ()
theorem asS {w0 h Q}(x0:Z)(H:ahM w0 (fun v h=>Q (.bC v) h) (fun v h=>Q (.ret v) h) x0 h):WF PP w0 BW [x0] h Q:=
 fm cq e74 [[]] (by kernel_rfl) (Eq.mp (by kernel_rfl) H)
def ahN (w0:World) (E R:ZZF) (x0 x1:Z):W:=pr (.box 110) [x0] fun v1=>pr (.fieldAddr 0) [v1] fun v2=>pr .aB [v2] fun v3=>pr (.fieldAddr 0) [x1] fun v4=>pr .aB [v4] fun v5=>pr (.zT .eql) [v3,v5] fun v6=>R v6
theorem asT {w0 h Q}(x0 x1:Z)(H:ahN w0 (fun v h=>Q (.bC v) h) (fun v h=>Q (.ret v) h) x0 x1 h):WF PP w0 QT [x0,x1] h Q:=
 fm cq asU [] (by kernel_rfl) (Eq.mp (by kernel_rfl) H)
def XB (w0:World) (E R:ZZF)  :W:=R (vi (-1))
def XC (w0:World) (E R:ZZF) (y3:Z) (k2:ZZF):W:=pr (.aL .add) [y3,vi 1] fun v5=>k2 v5
def XD (w0:World) (E R:ZZF) (x0 y3 x1:Z) (k2:ZZF):W:=pr (.cf 4) [x0,y3] fun v6=>pr (.bZ 4) [v6] fun v7=>dy PP w0 [x1,v7] E fun v8=>br v8 (R y3) (XC w0 E R y3 k2)
def QU (w0:World) (E R:ZZF) (v1 x0 x1:Z) (k2:ZZF) (y3:Z):W:=pr (.aL .lss) [y3,v1] fun v4=>br v4 (XD w0 E R x0 y3 x1 k2) (XB w0 E R)
def ahO (w0:World) (E R:ZZF) (x0 x1:Z):W:=pr .cb [x0] fun v1=>LP (α:=Z) (fun k a=>QU w0 E R v1 x0 x1 k a) ((vi 0))
theorem asV {w0 h Q}(x0 x1:Z)(H:ahO w0 (fun v h=>Q (.bC v) h) (fun v h=>Q (.ret v) h) x0 x1 h):WF PP w0 XE [x0,x1] h Q:=
 fm cq asW [[s8]] (by kernel_rfl) (Eq.mp (by kernel_rfl) H)
def ahP (w0:World) (E R:ZZF) (x0 x1:Z):W:=cl PP w0 XE [x0,x1] E fun v1=>pr (.aL .geq) [v1,vi 0] fun v2=>R v2
theorem asX {w0 h Q}(x0 x1:Z)(H:ahP w0 (fun v h=>Q (.bC v) h) (fun v h=>Q (.ret v) h) x0 x1 h):WF PP w0 XF [x0,x1] h Q:=
 fm cq asY [] (by kernel_rfl) (Eq.mp (by kernel_rfl) H)
def XG (w0:World) (E R:ZZF)  :W:=R (vi (-1))
def XH (w0:World) (E R:ZZF) (y3:Z) (k2:ZZF):W:=pr (.aL .add) [y3,vi 1] fun v5=>k2 v5
def XI (w0:World) (E R:ZZF) (x0 y3 x1:Z) (k2:ZZF):W:=pr (.cf 1) [x0,y3] fun v6=>pr .aB [v6] fun v7=>dy PP w0 [x1,v7] E fun v8=>br v8 (R y3) (XH w0 E R y3 k2)
def QV (w0:World) (E R:ZZF) (v1 x0 x1:Z) (k2:ZZF) (y3:Z):W:=pr (.aL .lss) [y3,v1] fun v4=>br v4 (XI w0 E R x0 y3 x1 k2) (XG w0 E R)
def ahQ (w0:World) (E R:ZZF) (x0 x1:Z):W:=pr .cb [x0] fun v1=>LP (α:=Z) (fun k a=>QV w0 E R v1 x0 x1 k a) ((vi 0))
theorem asZ {w0 h Q}(x0 x1:Z)(H:ahQ w0 (fun v h=>Q (.bC v) h) (fun v h=>Q (.ret v) h) x0 x1 h):WF PP w0 XJ [x0,x1] h Q:=
 fm cq as0 [[s8]] (by kernel_rfl) (Eq.mp (by kernel_rfl) H)
def ahR (w0:World) (E R:ZZF) (x0 x1:Z):W:=cl PP w0 XJ [x0,x1] E fun v1=>pr (.aL .geq) [v1,vi 0] fun v2=>R v2
theorem as1 {w0 h Q}(x0 x1:Z)(H:ahR w0 (fun v h=>Q (.bC v) h) (fun v h=>Q (.ret v) h) x0 x1 h):WF PP w0 QW [x0,x1] h Q:=
 fm cq as2 [] (by kernel_rfl) (Eq.mp (by kernel_rfl) H)
def ahS (w0:World) (E R:ZZF) (x0:Z):W:=cl PP w0 j5 [x0,vi 1,vi 3] E fun v1=>pr .ed [v1] fun v2=>R v2
theorem as3 {w0 h Q}(x0:Z)(H:ahS w0 (fun v h=>Q (.bC v) h) (fun v h=>Q (.ret v) h) x0 h):WF PP w0 QX [x0] h Q:=
 fm cq as4 [] (by kernel_rfl) (Eq.mp (by kernel_rfl) H)
def XK (w0:World) (E R:ZZF) (v3 v12:Z):W:=gd v12 true (fun k=>pr (.fieldAddr 3) [v3] k) fun bW=>gd v12 true (fun k=>pr .aB [bW] k) fun cD=>pr .pick [v12,cD,.bool false] fun b9=>R b9
def XL (w0:World) (E R:ZZF) (x3 v2 v3:Z):W:=pr (.aL .sub) [(vi (-2)),x3] fun v4=>pr (.fieldAddr 1) [v2] fun v5=>pr .aB [v5] fun v6=>pr .cb [v6] fun v7=>pr (.aL .lss) [v4,v7] fun v8=>gd v8 true (fun k=>pr (.fieldAddr 2) [v3] k) fun v9=>gd v8 true (fun k=>pr .aB [v9] k) fun v10=>gd v8 true (fun k=>pr (.aL .eql) [v10,vi 0] k) fun v11=>pr .pick [v8,v11,.bool false] fun v12=>XK w0 E R v3 v12
def ahT (w0:World) (E R:ZZF) (x0 x1 x2 x3:Z):W:=pr (.box 51) [x0] fun v1=>pr (.box 110) [x1] fun v2=>pr (.box 119) [x2] fun v3=>pr (.aL .eql) [x3,(vi (-1))] fun dr=>br dr (R (.bool true)) (pr (.aL .geq) [x3,vi 0] fun dc=>br dc (pr (.fieldAddr 2) [v1] fun aq=>pr .aB [aq] fun dS=>pr .cb [dS] fun v20=>pr (.aL .lss) [x3,v20] fun v21=>gd v21 true (fun k=>pr (.fieldAddr 2) [v1] k) fun gX=>gd v21 true (fun k=>pr .aB [gX] k) fun fE=>gd v21 true (fun k=>k x3) fun v24=>gd v21 true (fun k=>pr (.cf 7) [fE,v24] k) fun ct=>gd v21 true (fun k=>pr (.fieldAddr 2) [ct] k) fun eN=>gd v21 true (fun k=>pr .aB [eN] k) fun dE=>gd v21 true (fun k=>pr (.fieldAddr 2) [v3] k) fun v28=>gd v21 true (fun k=>pr .aB [v28] k) fun du=>gd v21 true (fun k=>pr (.aL .eql) [dE,du] k) fun v30=>pr .pick [v21,v30,.bool false] fun v31=>R v31) (XL w0 E R x3 v2 v3))
theorem as5 {w0 h Q}(x0 x1 x2 x3:Z)(H:ahT w0 (fun v h=>Q (.bC v) h) (fun v h=>Q (.ret v) h) x0 x1 x2 x3 h):WF PP w0 XM [x0,x1,x2,x3] h Q:=
 fm cq as6 [] (by kernel_rfl) (Eq.mp (by kernel_rfl) H)
def XN (w0:World) (E R:ZZF)  :W:=R (vi 0)
def XO (w0:World) (E R:ZZF) (bL:Z) (ic:ZZF):W:=pr (.aL .add) [bL,vi 1] fun dc=>ic dc
def XP (w0:World) (E R:ZZF) (v12 bL v1 v6:Z) (ic:ZZF):W:=pr (.cf 1) [v12,bL] fun aq=>pr .aB [aq] fun dS=>pr (.bZ 5) [v1] fun v20=>pr (.bZ 4) [v6] fun v21=>pr (.fieldAddr 1) [v1] fun gX=>pr .aB [gX] fun fE=>pr (.cf 4) [fE,bL] fun v24=>pr (.bZ 4) [v24] fun ct=>cl PP w0 XM [v20,v21,ct,dS] E fun eN=>pr .ed [eN] fun dE=>br dE (R (vi 2)) (XO w0 E R bL ic)
def QY (w0:World) (E R:ZZF) (bW v12 v1 v6:Z) (ic:ZZF) (bL:Z):W:=pr (.aL .lss) [bL,bW] fun dr=>br dr (XP w0 E R v12 bL v1 v6 ic) (XN w0 E R)
def XQ (w0:World) (E R:ZZF) (v6 v1:Z):W:=pr (.fieldAddr 2) [v6] fun v11=>pr .aB [v11] fun v12=>pr .cb [v12] fun bW=>LP (α:=Z) (fun k a=>QY w0 E R bW v12 v1 v6 k a) ((vi 0))
def XR (w0:World) (E R:ZZF) (v6 v1 v59:Z):W:=br v59 (R (vi 2)) (XQ w0 E R v6 v1)
def XS (w0:World) (E R:ZZF) (v6 v1 dM:Z):W:=gd dM false (fun k=>pr (.fieldAddr 3) [v6] k) fun ja=>gd dM false (fun k=>pr .aB [ja] k) fun v37=>gd dM false (fun k=>pr (.aL .neq) [v37,(vi (-1))] k) fun eT=>gd dM false (fun k=>k eT) fun bh=>gd bh true (fun k=>pr (.fieldAddr 3) [v6] k) fun v40=>gd bh true (fun k=>pr .aB [v40] k) fun aN=>gd bh true (fun k=>pr (.fieldAddr 2) [v1] k) fun gK=>gd bh true (fun k=>pr .aB [gK] k) fun gY=>gd bh true (fun k=>pr .cb [gY] k) fun iF=>gd bh true (fun k=>pr (.aL .sub) [iF,vi 1] k) fun gZ=>gd bh true (fun k=>cl PP w0 j5 [aN,vi 0,gZ] E k) fun v46=>gd bh true (fun k=>pr .ed [v46] k) fun dP=>gd bh true (fun k=>k dP) fun fo=>gd fo false (fun k=>pr (.fieldAddr 2) [v1] k) fun v49=>gd fo false (fun k=>pr .aB [v49] k) fun jz=>gd fo false (fun k=>pr (.fieldAddr 3) [v6] k) fun v51=>gd fo false (fun k=>pr .aB [v51] k) fun bS=>gd fo false (fun k=>pr (.cf 7) [jz,bS] k) fun v53=>gd fo false (fun k=>pr (.fieldAddr 2) [v53] k) fun lb=>gd fo false (fun k=>pr .aB [lb] k) fun cr=>gd fo false (fun k=>pr (.aL .neq) [cr,vi 0] k) fun cG=>gd bh true (fun k=>pr .pick [fo,.bool true,cG] k) fun dB=>gd dM false (fun k=>pr .pick [bh,dB,.bool false] k) fun iG=>pr .pick [dM,.bool true,iG] fun v59=>XR w0 E R v6 v1 v59
def XT (w0:World) (E R:ZZF) (v6 v1:Z):W:=pr (.fieldAddr 1) [v6] fun v8=>pr .aB [v8] fun v9=>cl PP w0 QW [v9,fc QX] E fun v10=>gd v10 false (fun k=>pr (.fieldAddr 2) [v6] k) fun v28=>gd v10 false (fun k=>pr .aB [v28] k) fun du=>gd v10 false (fun k=>pr .cb [du] k) fun v30=>gd v10 false (fun k=>pr (.fieldAddr 1) [v1] k) fun v31=>gd v10 false (fun k=>pr .aB [v31] k) fun iR=>gd v10 false (fun k=>pr .cb [iR] k) fun jA=>gd v10 false (fun k=>pr (.aL .neq) [v30,jA] k) fun eO=>pr .pick [v10,.bool true,eO] fun dM=>XS w0 E R v6 v1 dM
def ahU (w0:World) (E R:ZZF) (x0 x1:Z):W:=pr (.box 51) [x0] fun v1=>pr (.fieldAddr 0) [v1] fun v2=>pr .aB [v2] fun v3=>pr (.cf 4) [v3,x1] fun v4=>pr (.bZ 4) [v4] fun v5=>pr (.alloc 110 [(bs []),bJ,bJ,vi 0]) [] fun v6=>pr (.store 4) [v6,v5] fun v7=>pr (.fieldAddr 0) [v6] fun mQ=>pr .aB [mQ] fun cm=>cl PP w0 BW [cm] E fun nw=>pr .ed [nw] fun iv=>br iv (R (vi 4)) (pr (.fieldAddr 0) [v1] fun lf=>pr .aB [lf] fun bX=>pr (.slice 4 false true false) [bX,x1] fun jI=>pr (.xZ (.func QT) 0) [v6] fun mu=>cl PP w0 XF [jI,mu] E fun mw=>br mw (R (vi 6)) (pr (.fieldAddr 1) [v6] fun n5=>pr .aB [n5] fun v70=>pr .cb [v70] fun ie=>pr (.aL .gtr) [ie,vi 60] fun v72=>br v72 (R (vi 3)) (XT w0 E R v6 v1)))
theorem as7 {w0 h Q}(x0 x1:Z)(H:ahU w0 (fun v h=>Q (.bC v) h) (fun v h=>Q (.ret v) h) x0 x1 h):WF PP w0 XU [x0,x1] h Q:=
 fm cq e76 [[Hi]] (by kernel_rfl) (Eq.mp (by kernel_rfl) H)
def XV (w0:World) (E R:ZZF)  :W:=R (vi 0)
def XW (w0:World) (E R:ZZF) (ct:Z):W:=br ct (R (vi 1)) (XV w0 E R)
def XX (w0:World) (E R:ZZF) (v1 v20:Z):W:=gd v20 false (fun k=>pr (.fieldAddr 5) [v1] k) fun v21=>gd v20 false (fun k=>pr .aB [v21] k) fun gX=>gd v20 false (fun k=>pr .cb [gX] k) fun fE=>gd v20 false (fun k=>pr (.aL .eql) [fE,vi 0] k) fun v24=>pr .pick [v20,.bool true,v24] fun ct=>XW w0 E R  ct
def XY (w0:World) (E R:ZZF) (v1 y4 b9:Z):W:=gd b9 false (fun k=>pr (.fieldAddr 2) [v1] k) fun dr=>gd b9 false (fun k=>pr .aB [dr] k) fun dc=>gd b9 false (fun k=>k y4) fun aq=>gd b9 false (fun k=>pr (.aL .gtr) [dc,aq] k) fun dS=>pr .pick [b9,.bool true,dS] fun v20=>XX w0 E R v1 v20
def XZ (w0:World) (E R:ZZF) (v1 y4 v11:Z):W:=gd v11 false (fun k=>pr (.fieldAddr 4) [v1] k) fun v12=>gd v11 false (fun k=>pr .aB [v12] k) fun bW=>gd v11 false (fun k=>pr (.aL .lss) [bW,vi 0] k) fun cD=>pr .pick [v11,.bool true,cD] fun b9=>XY w0 E R v1 y4 b9
def QZ (w0:World) (E R:ZZF) (v1 y4:Z):W:=pr (.fieldAddr 2) [v1] fun v5=>pr .aB [v5] fun v6=>pr (.aL .lss) [v6,vi 0] fun v7=>gd v7 false (fun k=>pr (.fieldAddr 3) [v1] k) fun v8=>gd v7 false (fun k=>pr .aB [v8] k) fun v9=>gd v7 false (fun k=>pr (.aL .lss) [v9,vi 1] k) fun v10=>pr .pick [v7,.bool true,v10] fun v11=>XZ w0 E R v1 y4 v11
def X0 (w0:World) (E R:ZZF) (v1:Z):W:=pr (.fieldAddr 4) [v1] fun v2=>pr .aB [v2] fun v3=>pr (.aL .eql) [v3,vi 0] fun eN=>br eN (pr (.fieldAddr 3) [v1] fun dE=>pr .aB [dE] fun v28=>QZ w0 E R v1 v28) (QZ w0 E R v1 v3)
def X1 (w0:World) (E R:ZZF) (v1 v49:Z):W:=br v49 (R (vi 3)) (X0 w0 E R v1)
def X2 (w0:World) (E R:ZZF) (v1 iF:Z):W:=gd iF false (fun k=>pr (.fieldAddr 6) [v1] k) fun gZ=>gd iF false (fun k=>pr .aB [gZ] k) fun v46=>gd iF false (fun k=>pr .cb [v46] k) fun dP=>gd iF false (fun k=>pr (.aL .gtr) [dP,vi 40] k) fun fo=>pr .pick [iF,.bool true,fo] fun v49=>X1 w0 E R v1 v49
def X3 (w0:World) (E R:ZZF) (v1 bh:Z):W:=gd bh false (fun k=>pr (.fieldAddr 5) [v1] k) fun v40=>gd bh false (fun k=>pr .aB [v40] k) fun aN=>gd bh false (fun k=>pr .cb [aN] k) fun gK=>gd bh false (fun k=>pr (.aL .gtr) [gK,vi 600] k) fun gY=>pr .pick [bh,.bool true,gY] fun iF=>X2 w0 E R v1 iF
def X4 (w0:World) (E R:ZZF) (v1 dM:Z):W:=gd dM false (fun k=>pr (.fieldAddr 4) [v1] k) fun ja=>gd dM false (fun k=>pr .aB [ja] k) fun v37=>gd dM false (fun k=>pr (.aL .gtr) [v37,vi 200] k) fun eT=>pr .pick [dM,.bool true,eT] fun bh=>X3 w0 E R v1 bh
def ahV (w0:World) (E R:ZZF) (x0:Z):W:=pr (.box 25) [x0] fun v1=>pr (.fieldAddr 2) [v1] fun du=>pr .aB [du] fun v30=>pr (.aL .gtr) [v30,vi 16] fun v31=>gd v31 false (fun k=>pr (.fieldAddr 3) [v1] k) fun iR=>gd v31 false (fun k=>pr .aB [iR] k) fun jA=>gd v31 false (fun k=>pr (.aL .gtr) [jA,vi 200] k) fun eO=>pr .pick [v31,.bool true,eO] fun dM=>X4 w0 E R v1 dM
theorem as8 {w0 h Q}(x0:Z)(H:ahV w0 (fun v h=>Q (.bC v) h) (fun v h=>Q (.ret v) h) x0 h):WF PP w0 X5 [x0] h Q:=
 fm cq e80 [] (by kernel_rfl) (Eq.mp (by kernel_rfl) H)
def ahW (w0:World) (E R:ZZF) (x0 v1:Z):W:=cl PP w0 ahX [] E fun v2=>pr (.X6 35 9) [v2,x0] fun v3=>pr (.store 9) [v1,v3] fun v4=>ld (.bZ 9) [v1] fun v5=>R (.tuple ⟨[v5,.bool true]⟩)
def Q0 (w0:World) (E R:ZZF) (v1 x0 v9:Z):W:=br v9 (pr (.build [(bs []),vi 0,vi 0,vi 0,vi 0,vi 0,vi 0,.bool false,.bool false] []) [] fun v10=>pr (.store 9) [v1,v10] fun v11=>ld (.bZ 9) [v1] fun v12=>R (.tuple ⟨[v12,.bool false]⟩)) (ahW w0 E R x0 v1)
def ahY (w0:World) (E R:ZZF) (x0:Z):W:=pr (.alloc 138 [(bs []),vi 0,vi 0,vi 0,vi 0,vi 0,vi 0,.bool false,.bool false]) [] fun v1=>pr (.aL .lss) [x0,vi 1] fun v6=>gd v6 false (fun k=>k x0) fun v7=>gd v6 false (fun k=>pr (.aL .gtr) [v7,vi 34] k) fun v8=>pr .pick [v6,.bool true,v8] fun v9=>Q0 w0 E R v1 x0 v9
theorem as9 {w0 h Q}(x0:Z)(H:ahY w0 (fun v h=>Q (.bC v) h) (fun v h=>Q (.ret v) h) x0 h):WF PP w0 x7 [x0] h Q:=
 fm cq e84 [] (by kernel_rfl) (Eq.mp (by kernel_rfl) H)
def ahZ (w0:World) (E R:ZZF) (x0:Z):W:=pr (.box 67) [x0] fun v1=>pr (.alloc 135 [vi 0,vi 0,vi 0]) [] fun v2=>pr (.fieldAddr 1) [v1] fun v3=>pr .aB [v3] fun v4=>pr (.fieldAddr 2) [v1] fun v5=>pr .aB [v5] fun v6=>pr (.fieldAddr 3) [v1] fun v7=>pr .aB [v7] fun v8=>pr (.x8 [1,1,1]) [v4,v6,v8] fun v9=>pr (.store 3) [v2,v9] fun v10=>ld (.bZ 3) [v2] fun v11=>R v11
theorem ata {w0 h Q}(x0:Z)(H:ahZ w0 (fun v h=>Q (.bC v) h) (fun v h=>Q (.ret v) h) x0 h):WF PP w0 Et [x0] h Q:=
 fm cq e87 [] (by kernel_rfl) (Eq.mp (by kernel_rfl) H)
def X7 (w0:World) (E R:ZZF) (x2 v7 v21:Z):W:=gd v21 false (fun k=>k x2) fun gX=>gd v21 false (fun k=>pr (.aL .eql) [gX,vi 9] k) fun fE=>gd v21 false (fun k=>k fE) fun v24=>gd v24 true (fun k=>pr (.fieldAddr 3) [v7] k) fun ct=>gd v24 true (fun k=>pr .aB [ct] k) fun eN=>gd v24 true (fun k=>pr .ed [eN] k) fun dE=>gd v21 false (fun k=>pr .pick [v24,dE,.bool false] k) fun v28=>pr .pick [v21,.bool true,v28] fun du=>R du
def X8 (w0:World) (E R:ZZF) (v1 x3 x2:Z):W:=pr (.fieldAddr 1) [v1] fun v3=>pr .aB [v3] fun v4=>pr (.cf 4) [v4,x3] fun v5=>pr (.bZ 4) [v5] fun v6=>pr (.alloc 119 [(bs []),(bs []),vi 0,.bool false]) [] fun v7=>pr (.store 4) [v7,v6] fun v8=>pr (.aL .eql) [x2,vi 8] fun v9=>gd v9 false (fun k=>k x2) fun v10=>gd v9 false (fun k=>pr (.aL .eql) [v10,vi 7] k) fun v11=>gd v9 false (fun k=>k v11) fun v12=>gd v12 true (fun k=>pr (.fieldAddr 2) [v7] k) fun bW=>gd v12 true (fun k=>pr .aB [bW] k) fun cD=>gd v12 true (fun k=>pr (.aL .eql) [cD,vi 0] k) fun b9=>gd v9 false (fun k=>pr .pick [v12,b9,.bool false] k) fun dr=>gd v9 false (fun k=>k dr) fun dc=>gd dc true (fun k=>pr (.fieldAddr 3) [v7] k) fun aq=>gd dc true (fun k=>pr .aB [aq] k) fun dS=>gd v9 false (fun k=>pr .pick [dc,dS,.bool false] k) fun v20=>pr .pick [v9,.bool true,v20] fun v21=>X7 w0 E R x2 v7 v21
def X9 (w0:World) (E R:ZZF) (v1 x3 x2:Z):W:=pr (.fieldAddr 1) [v1] fun v30=>pr .aB [v30] fun v31=>pr .cb [v31] fun iR=>pr (.aL .sub) [iR,vi 1] fun jA=>cl PP w0 j5 [x3,vi 0,jA] E fun eO=>pr .ed [eO] fun dM=>br dM (R (.bool false)) (X8 w0 E R v1 x3 x2)
def ah0 (w0:World) (E R:ZZF) (x0 x1 x2 x3:Z):W:=pr (.box 51) [x0] fun v1=>pr (.box 25) [x1] fun v2=>pr (.aL .eql) [x2,vi 0] fun ja=>br ja (pr (.aL .eql) [x3,vi 0] fun v37=>R v37) (pr (.aL .eql) [x2,vi 1] fun eT=>br eT (pr (.fieldAddr 3) [v2] fun bh=>pr .aB [bh] fun v40=>pr (.aL .sub) [v40,vi 1] fun aN=>cl PP w0 j5 [x3,vi 0,aN] E fun gK=>R gK) (pr (.aL .eql) [x2,vi 2] fun gY=>br gY (pr (.fieldAddr 3) [v2] fun iF=>pr .aB [iF] fun gZ=>pr (.aL .sub) [gZ,vi 1] fun v46=>cl PP w0 j5 [x3,(vi (-1)),v46] E fun dP=>R dP) (pr (.aL .eql) [x2,vi 3] fun fo=>br fo (pr (.fieldAddr 5) [v2] fun v49=>pr .aB [v49] fun jz=>pr .cb [jz] fun v51=>pr (.aL .sub) [v51,vi 1] fun bS=>cl PP w0 j5 [x3,vi 0,bS] E fun v53=>R v53) (pr (.aL .eql) [x2,vi 4] fun lb=>br lb (cl PP w0 j5 [x3,(vi (-1099511627776)),vi 1099511627776] E fun cr=>R cr) (pr (.aL .eql) [x2,vi 5] fun cG=>br cG (cl PP w0 j5 [x3,vi 0,vi 1] E fun dB=>R dB) (pr (.aL .eql) [x2,vi 6] fun iG=>br iG (cl PP w0 j5 [x3,vi 0,vi 15] E fun v59=>R v59) (pr (.aL .eql) [x2,vi 10] fun mQ=>br mQ (pr (.fieldAddr 0) [v1] fun cm=>pr .aB [cm] fun nw=>pr .cb [nw] fun iv=>pr (.aL .sub) [iv,vi 1] fun lf=>cl PP w0 j5 [x3,vi 0,lf] E fun bX=>R bX) (pr (.aL .eql) [x2,vi 11] fun jI=>br jI (cl PP w0 j5 [x3,vi 1,vi 199] E fun mu=>R mu) (pr (.aL .eql) [x2,vi 12] fun mw=>br mw (pr (.fieldAddr 4) [v2] fun n5=>pr .aB [n5] fun v70=>pr (.aL .sub) [v70,vi 1] fun ie=>cl PP w0 j5 [x3,vi 0,ie] E fun v72=>R v72) (X9 w0 E R v1 x3 x2))))))))))
theorem atb {w0 h Q}(x0 x1 x2 x3:Z)(H:ah0 w0 (fun v h=>Q (.bC v) h) (fun v h=>Q (.ret v) h) x0 x1 x2 x3 h):WF PP w0 Ya [x0,x1,x2,x3] h Q:=
 fm cq atc [] (by kernel_rfl) (Eq.mp (by kernel_rfl) H)
def Yb (w0:World) (E R:ZZF) (v1 v3 dc:Z):W:=gd dc false (fun k=>pr (.fieldAddr 1) [v1] k) fun aq=>gd dc false (fun k=>pr .aB [aq] k) fun dS=>gd dc false (fun k=>pr (.fieldAddr 3) [v3] k) fun v20=>gd dc false (fun k=>pr .aB [v20] k) fun v21=>gd dc false (fun k=>pr (.cf 4) [dS,v21] k) fun gX=>gd dc false (fun k=>pr (.fieldAddr 3) [gX] k) fun fE=>gd dc false (fun k=>pr .aB [fE] k) fun v24=>pr .pick [dc,.bool true,v24] fun ct=>R ct
def Yc (w0:World) (E R:ZZF) (v3 v1:Z):W:=pr (.fieldAddr 0) [v3] fun v11=>pr .aB [v11] fun v12=>pr (.aL .neq) [v12,vi 20] fun bW=>gd bW false (fun k=>pr (.fieldAddr 1) [v3] k) fun cD=>gd bW false (fun k=>pr .aB [cD] k) fun b9=>gd bW false (fun k=>pr (.aL .lss) [b9,vi 0] k) fun dr=>pr .pick [bW,.bool true,dr] fun dc=>Yb w0 E R v1 v3 dc
def Yd (w0:World) (E R:ZZF) (jB:Z) (sV:ZZF):W:=pr (.aL .add) [jB,vi 1] fun v31=>sV v31
def Ye (w0:World) (E R:ZZF) (dE jB v1 v2 v9:Z) (sV:ZZF):W:=pr (.x9 3) [dE,jB] fun iR=>pr (.bZ 5) [v1] fun jA=>pr (.bZ 7) [v2] fun eO=>pr (.fieldAddr 1) [v9] fun dM=>pr (.Q1 3 1) [dM,jB] fun ja=>pr .aB [ja] fun v37=>cl PP w0 Ya [jA,eO,v37,iR] E fun eT=>pr .ed [eT] fun bh=>br bh (R (.bool false)) (Yd w0 E R jB sV)
def Q2 (w0:World) (E R:ZZF) (dE v1 v2 v9 v3:Z) (sV:ZZF) (jB:Z):W:=pr (.aL .lss) [jB,vi 3] fun v30=>br v30 (Ye w0 E R dE jB v1 v2 v9 sV) (Yc w0 E R v3 v1)
def Yf (w0:World) (E R:ZZF) (v3 v1 v2 v9:Z):W:=pr (.bZ 4) [v3] fun eN=>cl PP w0 Et [eN] E fun dE=>LP (α:=Z) (fun k a=>Q2 w0 E R dE v1 v2 v9 v3 k a) ((vi 0))
def ah1 (w0:World) (E R:ZZF) (x0 x1 x2:Z):W:=pr (.box 51) [x0] fun v1=>pr (.box 25) [x1] fun v2=>pr (.box 67) [x2] fun v3=>pr (.fieldAddr 0) [v3] fun v4=>pr .aB [v4] fun v5=>cl PP w0 x7 [v5] E fun v6=>pr (.extract 0) [v6] fun v7=>pr (.extract 1) [v6] fun v8=>pr (.alloc 138 [(bs []),vi 0,vi 0,vi 0,vi 0,vi 0,vi 0,.bool false,.bool false]) [] fun v9=>pr (.store 9) [v9,v7] fun v10=>pr .ed [v8] fun v40=>br v40 (R (.bool false)) (Yf w0 E R v3 v1 v2 v9)
theorem atd {w0 h Q}(x0 x1 x2:Z)(H:ah1 w0 (fun v h=>Q (.bC v) h) (fun v h=>Q (.ret v) h) x0 x1 x2 h):WF PP w0 Yg [x0,x1,x2] h Q:=
 fm cq e83 [[wK]] (by kernel_rfl) (Eq.mp (by kernel_rfl) H)
def ah2 (w0:World) (E R:ZZF) (x0 x1 x2:Z):W:=pr (.box 67) [x0] fun v1=>pr (.bZ 5) [x1] fun v2=>pr (.bZ 7) [x2] fun v3=>pr (.bZ 4) [v1] fun v4=>cl PP w0 Yg [v2,v3,v4] E fun v5=>pr .ed [v5] fun v6=>R v6
theorem ate {w0 h Q}(x0 x1 x2:Z)(H:ah2 w0 (fun v h=>Q (.bC v) h) (fun v h=>Q (.ret v) h) x0 x1 x2 h):WF PP w0 Q3 [x0,x1,x2] h Q:=
 fm cq e82 [] (by kernel_rfl) (Eq.mp (by kernel_rfl) H)
def Yh (w0:World) (E R:ZZF)  :W:=R (vi (-1))
def Yi (w0:World) (E R:ZZF) (y3:Z) (k2:ZZF):W:=pr (.aL .add) [y3,vi 1] fun v5=>k2 v5
def Yj (w0:World) (E R:ZZF) (x0 y3 x1:Z) (k2:ZZF):W:=pr (.cf 4) [x0,y3] fun v6=>pr (.bZ 4) [v6] fun v7=>dy PP w0 [x1,v7] E fun v8=>br v8 (R y3) (Yi w0 E R y3 k2)
def Q4 (w0:World) (E R:ZZF) (v1 x0 x1:Z) (k2:ZZF) (y3:Z):W:=pr (.aL .lss) [y3,v1] fun v4=>br v4 (Yj w0 E R x0 y3 x1 k2) (Yh w0 E R)
def ah3 (w0:World) (E R:ZZF) (x0 x1:Z):W:=pr .cb [x0] fun v1=>LP (α:=Z) (fun k a=>Q4 w0 E R v1 x0 x1 k a) ((vi 0))
theorem atf {w0 h Q}(x0 x1:Z)(H:ah3 w0 (fun v h=>Q (.bC v) h) (fun v h=>Q (.ret v) h) x0 x1 h):WF PP w0 Yk [x0,x1] h Q:=
 fm cq e81 [[s8]] (by kernel_rfl) (Eq.mp (by kernel_rfl) H)
def Yl (w0:World) (E R:ZZF)  :W:=R (.tuple ⟨[vi 0,.bool false]⟩)
def ah4 (w0:World) (E R:ZZF) (x0:Z):W:=pr (.box 67) [x0] fun v1=>pr (.fieldAddr 0) [v1] fun v2=>pr .aB [v2] fun v3=>pr (.aL .eql) [v3,vi 20] fun v4=>br v4 (pr (.fieldAddr 3) [v1] fun v5=>pr .aB [v5] fun v6=>R (.tuple ⟨[v6,.bool true]⟩)) (pr (.aL .eql) [v3,vi 22] fun v7=>br v7 (pr (.fieldAddr 2) [v1] fun v8=>pr .aB [v8] fun v9=>R (.tuple ⟨[v9,.bool true]⟩)) (Yl w0 E R))
theorem atg {w0 h Q}(x0:Z)(H:ah4 w0 (fun v h=>Q (.bC v) h) (fun v h=>Q (.ret v) h) x0 h):WF PP w0 Q5 [x0] h Q:=
 fm cq e98 [] (by kernel_rfl) (Eq.mp (by kernel_rfl) H)
def Ym (w0:World) (E R:ZZF) (v6:Z):W:=R (.tuple ⟨[v6,(vi (-1))]⟩)
def Yn (w0:World) (E R:ZZF) (bL:Z) (ic:ZZF):W:=pr (.aL .add) [bL,vi 1] fun dc=>ic dc
def Yo (w0:World) (E R:ZZF) (v6 bL:Z) (ic:ZZF) (dM:Z):W:=br dM (R (.tuple ⟨[v6,bL]⟩)) (Yn w0 E R bL ic)
def Yp (w0:World) (E R:ZZF) (v10 bL v6:Z) (ic:ZZF) (du:Z):W:=gd du true (fun k=>k v10) fun v30=>gd du true (fun k=>k bL) fun v31=>gd du true (fun k=>pr (.cf 1) [v30,v31] k) fun iR=>gd du true (fun k=>pr .aB [iR] k) fun jA=>gd du true (fun k=>pr .ed [jA] k) fun eO=>pr .pick [du,eO,.bool false] fun dM=>Yo w0 E R v6 bL ic dM
def Yq (w0:World) (E R:ZZF) (v12 bL v10 v6:Z) (ic:ZZF):W:=pr (.cf 4) [v12,bL] fun aq=>pr (.bZ 4) [aq] fun dS=>pr (.alloc 67 [vi 0,vi 0,vi 0,vi 0]) [] fun v20=>pr (.store 4) [v20,dS] fun v21=>pr (.bZ 4) [v20] fun gX=>cl PP w0 Q5 [gX] E fun fE=>pr (.extract 0) [fE] fun v24=>pr (.extract 1) [fE] fun ct=>gd ct false (fun k=>pr (.fieldAddr 0) [v20] k) fun eN=>gd ct false (fun k=>pr .aB [eN] k) fun dE=>gd ct false (fun k=>pr (.aL .eql) [dE,vi 19] k) fun v28=>pr .pick [ct,.bool true,v28] fun du=>Yp w0 E R v10 bL v6 ic du
def Q6 (w0:World) (E R:ZZF) (bW v12 v10 v6:Z) (ic:ZZF) (bL:Z):W:=pr (.aL .lss) [bL,bW] fun dr=>br dr (Yq w0 E R v12 bL v10 v6 ic) (Ym w0 E R v6)
def Yr (w0:World) (E R:ZZF) (v2 v10 v6:Z):W:=pr (.fieldAddr 5) [v2] fun v11=>pr .aB [v11] fun v12=>pr .cb [v12] fun bW=>LP (α:=Z) (fun k a=>Q6 w0 E R bW v12 v10 v6 k a) ((vi 0))
def Kt (w0:World) (E R:ZZF) (bT:Z) (ff:ZZF):W:=pr (.aL .add) [bT,vi 1] fun gK=>ff gK
def Ys (w0:World) (E R:ZZF) (cj:Z) (fF:ZZF):W:=pr (.aL .add) [cj,vi 1] fun cm=>fF cm
def Yt (w0:World) (E R:ZZF) (bT cr v6 cj v10:Z) (fF:ZZF):W:=pr (.aL .sub) [bT,cr] fun nw=>pr (.cf 1) [v6,cj] fun iv=>pr (.store 1) [iv,nw] fun lf=>pr (.cf 1) [v10,cj] fun bX=>pr (.store 1) [bX,.bool true] fun jI=>Ys w0 E R cj fF
def Q7 (w0:World) (E R:ZZF) (bT cr v6 v10:Z) (ff fF:ZZF) (cj:Z):W:=pr (.aL .leq) [cj,bT] fun mu=>br mu (Yt w0 E R bT cr v6 cj v10 fF) (Kt w0 E R bT ff)
def Yu (w0:World) (E R:ZZF) (bT cr v6 v10:Z) (ff:ZZF):W:=pr (.aL .sub) [bT,cr] fun iG=>LP (α:=Z) (fun k a=>Q7 w0 E R bT cr v6 v10 ff k a) (iG)
def Yv (w0:World) (E R:ZZF) (bT:Z) (ff:ZZF) (cr v6 v10 ny:Z):W:=pr .ed [ny] fun mw=>br mw (Kt w0 E R bT ff) (Yu w0 E R bT cr v6 v10 ff)
def Yw (w0:World) (E R:ZZF) (gC:Z) (oP:Z→ZZF) (iw:Z):W:=pr (.aL .add) [gC,vi 1] fun eB=>oP iw eB
def Yx (w0:World) (E R:ZZF) (v2 bT cr gC:Z) (oP:Z→ZZF):W:=pr (.fieldAddr 5) [v2] fun iy=>pr .aB [iy] fun v75=>pr (.aL .sub) [bT,cr] fun v76=>pr (.aL .add) [v76,gC] fun rK=>pr (.cf 4) [v75,rK] fun oQ=>pr (.bZ 4) [oQ] fun my=>pr (.alloc 67 [vi 0,vi 0,vi 0,vi 0]) [] fun v80=>pr (.store 4) [v80,my] fun kL=>pr (.fieldAddr 0) [v80] fun rM=>pr .aB [rM] fun rN=>pr (.aL .eql) [rN,vi 19] fun cI=>gd cI true (fun k=>pr (.fieldAddr 1) [v80] k) fun v85=>gd cI true (fun k=>pr .aB [v85] k) fun kM=>gd cI true (fun k=>k gC) fun v87=>gd cI true (fun k=>pr (.aL .eql) [kM,v87] k) fun l5=>pr .pick [cI,l5,.bool false] fun l7=>Yw w0 E R gC oP l7
def Yy (w0:World) (E R:ZZF) (v2 bT cr gC:Z) (oP:Z→ZZF) (ff:ZZF) (v6 v10 lM v93:Z):W:=br v93 (Yx w0 E R v2 bT cr gC oP) (Yv w0 E R bT ff cr v6 v10 lM)
def Q8 (w0:World) (E R:ZZF) (cr v2 bT:Z) (ff:ZZF) (v6 v10:Z) (oP:Z→ZZF) (lM gC:Z):W:=gd lM true (fun k=>k gC) fun sW=>gd lM true (fun k=>k cr) fun v91=>gd lM true (fun k=>pr (.aL .lss) [sW,v91] k) fun ig=>pr .pick [lM,ig,.bool false] fun v93=>Yy w0 E R v2 bT cr gC oP ff v6 v10 lM v93
def Yz (w0:World) (E R:ZZF) (v1 v49 bT v2:Z) (ff:ZZF) (v6 v10:Z):W:=pr (.fieldAddr 1) [v1] fun v51=>pr .aB [v51] fun bS=>pr (.cf 4) [bS,v49] fun v53=>pr (.fieldAddr 2) [v53] fun lb=>pr .aB [lb] fun cr=>pr (.aL .geq) [bT,cr] fun cG=>LP (α:=Z×Z) (fun k a=>Q8 w0 E R cr v2 bT ff v6 v10 (fun b0 b1=>k (b0,b1)) a.1 a.2) (cG,(vi 0))
def YA (w0:World) (E R:ZZF) (v37 bT:Z) (ff:ZZF) (v1 v2 v6 v10:Z):W:=pr (.cf 4) [v37,bT] fun gY=>pr (.bZ 4) [gY] fun iF=>pr (.alloc 67 [vi 0,vi 0,vi 0,vi 0]) [] fun gZ=>pr (.store 4) [gZ,iF] fun v46=>pr (.bZ 4) [gZ] fun dP=>cl PP w0 Q5 [dP] E fun fo=>pr (.extract 0) [fo] fun v49=>pr (.extract 1) [fo] fun jz=>pr .ed [jz] fun jb=>br jb (Kt w0 E R bT ff) (Yz w0 E R v1 v49 bT v2 ff v6 v10)
def Q9 (w0:World) (E R:ZZF) (eT v37 v1 v2 v6 v10:Z) (ff:ZZF) (bT:Z):W:=pr (.aL .lss) [bT,eT] fun aN=>br aN (YA w0 E R v37 bT ff v1 v2 v6 v10) (Yr w0 E R v2 v10 v6)
def YB (w0:World) (E R:ZZF) (v2 v1 v6 v10:Z):W:=pr (.fieldAddr 5) [v2] fun ja=>pr .aB [ja] fun v37=>pr .cb [v37] fun eT=>LP (α:=Z) (fun k a=>Q9 w0 E R eT v37 v1 v2 v6 v10 k a) ((vi 0))
def YC (w0:World) (E R:ZZF) (dv:Z) (sX:ZZF):W:=pr (.aL .add) [dv,vi 1] fun kN=>sX kN
def YD (w0:World) (E R:ZZF) (v6 dv:Z) (sX:ZZF):W:=pr (.cf 1) [v6,dv] fun zU=>pr (.store 1) [zU,dv] fun ya=>YC w0 E R dv sX
def Ra (w0:World) (E R:ZZF) (mR v6 v2 v1 v10:Z) (sX:ZZF) (dv:Z):W:=pr (.aL .lss) [dv,mR] fun yb=>br yb (YD w0 E R v6 dv sX) (YB w0 E R v2 v1 v6 v10)
def ah5 (w0:World) (E R:ZZF) (x0 x1:Z):W:=pr (.box 51) [x0] fun v1=>pr (.box 25) [x1] fun v2=>pr (.fieldAddr 5) [v2] fun v3=>pr .aB [v3] fun v4=>pr .cb [v4] fun v5=>pr (.mkSlice 3 1 [vi 0]) [v5,v5] fun v6=>pr (.fieldAddr 5) [v2] fun v7=>pr .aB [v7] fun v8=>pr .cb [v8] fun v9=>pr (.mkSlice 4 1 [.bool false]) [v9,v9] fun v10=>pr (.fieldAddr 5) [v2] fun kO=>pr .aB [kO] fun zV=>pr .cb [zV] fun mR=>LP (α:=Z) (fun k a=>Ra w0 E R mR v6 v2 v1 v10 k a) ((vi 0))
theorem ath {w0 h Q}(x0 x1:Z)(H:ah5 w0 (fun v h=>Q (.bC v) h) (fun v h=>Q (.ret v) h) x0 x1 h):WF PP w0 YE [x0,x1] h Q:=
 fm cq e85 [[uE],[wL],[nz,sY],[wM],[YF]] (by kernel_rfl) (Eq.mp (by kernel_rfl) H)
def YG (w0:World) (E R:ZZF) (y9:Z):W:=R y9
def Rb (w0:World) (E R:ZZF) (ch:Z) (gL:Z→ZZF) (eC:Z):W:=pr (.aL .add) [ch,vi 1] fun dc=>gL eC dc
def YH (w0:World) (E R:ZZF) (v11 ch v1 dR:Z) (gL:Z→ZZF):W:=pr (.x9 3) [v11,ch] fun aq=>pr (.aL .eql) [aq,vi 3] fun dS=>br dS (pr (.bZ 4) [v1] fun v20=>cl PP w0 Et [v20] E fun v21=>pr (.x9 3) [v21,ch] fun gX=>pr (.buildSlice 3 1 [vi 0] [(0,1)]) [gX] fun fE=>pr (.append 3 1 [vi 0]) [dR,fE] fun v24=>Rb w0 E R ch gL v24) (Rb w0 E R ch gL dR)
def Re (w0:World) (E R:ZZF) (v11 v1:Z) (gL:Z→ZZF) (dR ch:Z):W:=pr (.aL .lss) [ch,vi 3] fun b9=>br b9 (YH w0 E R v11 ch v1 dR gL) (YG w0 E R  dR)
def ah6 (w0:World) (E R:ZZF) (x0:Z):W:=pr (.box 67) [x0] fun v1=>pr (.fieldAddr 0) [v1] fun v2=>pr .aB [v2] fun v3=>cl PP w0 x7 [v3] E fun v4=>pr (.extract 0) [v4] fun v5=>pr (.extract 1) [v4] fun v6=>pr (.alloc 138 [(bs []),vi 0,vi 0,vi 0,vi 0,vi 0,vi 0,.bool false,.bool false]) [] fun v7=>pr (.store 9) [v7,v5] fun v8=>pr (.fieldAddr 1) [v7] fun v10=>pr (.bZ 3) [v10] fun v11=>LP (α:=Z×Z) (fun k a=>Re w0 E R v11 v1 (fun b0 b1=>k (b0,b1)) a.1 a.2) (bJ,(vi 0))
theorem ati {w0 h Q}(x0:Z)(H:ah6 w0 (fun v h=>Q (.bC v) h) (fun v h=>Q (.ret v) h) x0 h):WF PP w0 Rf [x0] h Q:=
 fm cq atj [[s5,uF]] (by kernel_rfl) (Eq.mp (by kernel_rfl) H)
def ah7 (w0:World) (E R:ZZF) (x0 x1:Z):W:=pr (.box 79) [x0] fun v1=>pr (.fieldAddr 0) [v1] fun v2=>pr .aB [v2] fun v3=>pr .aB [x1] fun v4=>pr (.aL .leq) [v3,v4] fun v5=>gd v5 true (fun k=>pr .aB [x1] k) fun v6=>gd v5 true (fun k=>pr (.fieldAddr 1) [v1] k) fun v7=>gd v5 true (fun k=>pr .aB [v7] k) fun v8=>gd v5 true (fun k=>pr (.aL .lss) [v6,v8] k) fun v9=>pr .pick [v5,v9,.bool false] fun v10=>R v10
theorem atk {w0 h Q}(x0 x1:Z)(H:ah7 w0 (fun v h=>Q (.bC v) h) (fun v h=>Q (.ret v) h) x0 x1 h):WF PP w0 Rg [x0,x1] h Q:=
 fm cq atl [] (by kernel_rfl) (Eq.mp (by kernel_rfl) H)
def YI (w0:World) (E R:ZZF)  :W:=R (vi (-1))
def YJ (w0:World) (E R:ZZF) (y3:Z) (k2:ZZF):W:=pr (.aL .add) [y3,vi 1] fun v5=>k2 v5
def YK (w0:World) (E R:ZZF) (x0 y3 x1:Z) (k2:ZZF):W:=pr (.cf 3) [x0,y3] fun v6=>pr (.bZ 3) [v6] fun v7=>dy PP w0 [x1,v7] E fun v8=>br v8 (R y3) (YJ w0 E R y3 k2)
def Rh (w0:World) (E R:ZZF) (v1 x0 x1:Z) (k2:ZZF) (y3:Z):W:=pr (.aL .lss) [y3,v1] fun v4=>br v4 (YK w0 E R x0 y3 x1 k2) (YI w0 E R)
def ah8 (w0:World) (E R:ZZF) (x0 x1:Z):W:=pr .cb [x0] fun v1=>LP (α:=Z) (fun k a=>Rh w0 E R v1 x0 x1 k a) ((vi 0))
theorem atm {w0 h Q}(x0 x1:Z)(H:ah8 w0 (fun v h=>Q (.bC v) h) (fun v h=>Q (.ret v) h) x0 x1 h):WF PP w0 Ri [x0,x1] h Q:=
 fm cq atn [[s8]] (by kernel_rfl) (Eq.mp (by kernel_rfl) H)
def ah9 (w0:World) (E R:ZZF) (x0 x1:Z):W:=pr (.box 25) [x0] fun v1=>pr (.box 3) [x1] fun v2=>pr (.fieldAddr 6) [v1] fun v3=>pr .aB [v3] fun v4=>pr (.xZ (.func Rg) 0) [v2] fun v5=>cl PP w0 Ri [v4,v5] E fun v6=>R v6
theorem ato {w0 h Q}(x0 x1:Z)(H:ah9 w0 (fun v h=>Q (.bC v) h) (fun v h=>Q (.ret v) h) x0 x1 h):WF PP w0 YL [x0,x1] h Q:=
 fm cq e93 [] (by kernel_rfl) (Eq.mp (by kernel_rfl) H)
def YM (w0:World) (E R:ZZF) (x1 dc x0 gX:Z):W:=br gX (pr (.fieldAddr 6) [x1] fun fE=>pr .aB [fE] fun v24=>pr (.cf 3) [v24,dc] fun ct=>pr (.fieldAddr 2) [ct] fun eN=>pr .aB [eN] fun dE=>dy PP w0 [x0,dE,vi 2] E fun v28=>R (.tuple ⟨[]⟩)) (R (.tuple ⟨[]⟩))
def YN (w0:World) (E R:ZZF) (x1 x2 bW x0:Z):W:=pr (.bZ 7) [x1] fun b9=>pr .aB [x2] fun dr=>cl PP w0 YL [b9,dr] E fun dc=>pr (.fieldAddr 7) [bW] fun aq=>pr .aB [aq] fun dS=>gd dS true (fun k=>k dc) fun v20=>gd dS true (fun k=>pr (.aL .geq) [v20,vi 0] k) fun v21=>pr .pick [dS,v21,.bool false] fun gX=>YM w0 E R x1 dc x0 gX
def aia (w0:World) (E R:ZZF) (Eu:Z) (Ku:ZZF):W:=pr (.aL .add) [Eu,vi 1] fun dM=>Ku dM
def aib (w0:World) (E R:ZZF) (v30 Eu x0:Z) (Ku:ZZF):W:=pr (.cf 1) [v30,Eu] fun ja=>pr .aB [ja] fun v37=>dy PP w0 [x0,v37,vi 1] E fun eT=>pr .ed [eT] fun bh=>br bh (R (.tuple ⟨[]⟩)) (aia w0 E R Eu Ku)
def aic (w0:World) (E R:ZZF) (v31 v30 x0 x1 x2 bW:Z) (Ku:ZZF) (Eu:Z):W:=pr (.aL .lss) [Eu,v31] fun eO=>br eO (aib w0 E R v30 Eu x0 Ku) (YN w0 E R x1 x2 bW x0)
def YO (w0:World) (E R:ZZF) (v6 x0 x1 x2 bW:Z):W:=pr (.bZ 4) [v6] fun du=>cl PP w0 Rf [du] E fun v30=>pr .cb [v30] fun v31=>LP (α:=Z) (fun k a=>aic w0 E R v31 v30 x0 x1 x2 bW k a) ((vi 0))
def Kv (w0:World) (E R:ZZF) (v6 x0 x1 x2 bW cr:Z):W:=br cr (R (.tuple ⟨[]⟩)) (YO w0 E R v6 x0 x1 x2 bW)
def YP (w0:World) (E R:ZZF) (x0 x2 v6 x1 bW v49:Z):W:=gd v49 true (fun k=>k x0) fun jz=>gd v49 true (fun k=>pr .aB [x2] k) fun v51=>gd v49 true (fun k=>pr (.aL .add) [v51,vi 1] k) fun bS=>gd v49 true (fun k=>dy PP w0 [jz,bS,vi 0] E k) fun v53=>gd v49 true (fun k=>pr .ed [v53] k) fun lb=>pr .pick [v49,lb,.bool false] fun cr=>Kv w0 E R v6 x0 x1 x2 bW cr
def aid (w0:World) (E R:ZZF) (x0 x1 x2:Z):W:=pr (.fieldAddr 5) [x1] fun v1=>pr .aB [v1] fun v2=>pr .aB [x2] fun v3=>pr (.cf 4) [v2,v3] fun v4=>pr (.bZ 4) [v4] fun v5=>pr (.alloc 67 [vi 0,vi 0,vi 0,vi 0]) [] fun v6=>pr (.store 4) [v6,v5] fun v7=>pr (.fieldAddr 0) [v6] fun v8=>pr .aB [v8] fun v9=>cl PP w0 x7 [v9] E fun v10=>pr (.extract 0) [v10] fun v11=>pr (.extract 1) [v10] fun v12=>pr (.alloc 138 [(bs []),vi 0,vi 0,vi 0,vi 0,vi 0,vi 0,.bool false,.bool false]) [] fun bW=>pr (.store 9) [bW,v11] fun cD=>pr (.fieldAddr 8) [bW] fun v40=>pr .aB [v40] fun aN=>pr .ed [aN] fun gK=>gd gK true (fun k=>pr .aB [x2] k) fun gY=>gd gK true (fun k=>pr (.aL .add) [gY,vi 1] k) fun iF=>gd gK true (fun k=>pr (.fieldAddr 5) [x1] k) fun gZ=>gd gK true (fun k=>pr .aB [gZ] k) fun v46=>gd gK true (fun k=>pr .cb [v46] k) fun dP=>gd gK true (fun k=>pr (.aL .lss) [iF,dP] k) fun fo=>pr .pick [gK,fo,.bool false] fun v49=>YP w0 E R x0 x2 v6 x1 bW v49
theorem atp {w0 h Q}(x0 x1 x2:Z)(H:aid w0 (fun v h=>Q (.bC v) h) (fun v h=>Q (.ret v) h) x0 x1 x2 h):WF PP w0 Rj [x0,x1,x2] h Q:=
 fm cq atq [[wN]] (by kernel_rfl) (Eq.mp (by kernel_rfl) H)
def aie (w0:World) (E R:ZZF) (x0 x1:Z):W:=pr (.box 25) [x0] fun v1=>pr (.box 3) [x1] fun v2=>pr (.xZ (.func Rj) 0) [v1,v2] fun v3=>R v3
theorem atr {w0 h Q}(x0 x1:Z)(H:aie w0 (fun v h=>Q (.bC v) h) (fun v h=>Q (.ret v) h) x0 x1 h):WF PP w0 Hj [x0,x1] h Q:=
 fm cq e86 [] (by kernel_rfl) (Eq.mp (by kernel_rfl) H)
def aif (w0:World) (E R:ZZF) (x0 x1:Z):W:=pr (.aL .and) [x0,.int .u64 4294967295] fun v1=>pr (.aL .shr) [x0,.int .u64 32] fun v2=>pr (.aL .and) [x1,.int .u64 4294967295] fun v3=>pr (.aL .shr) [x1,.int .u64 32] fun v4=>pr (.aL .mul) [v1,v3] fun v5=>pr (.aL .mul) [v2,v3] fun v6=>pr (.aL .shr) [v5,.int .u64 32] fun v7=>pr (.aL .add) [v6,v7] fun v8=>pr (.aL .and) [v8,.int .u64 4294967295] fun v9=>pr (.aL .shr) [v8,.int .u64 32] fun v10=>pr (.aL .mul) [v1,v4] fun v11=>pr (.aL .add) [v9,v11] fun v12=>pr (.aL .mul) [v2,v4] fun bW=>pr (.aL .add) [bW,v10] fun cD=>pr (.aL .shr) [v12,.int .u64 32] fun b9=>pr (.aL .add) [cD,b9] fun dr=>pr (.aL .mul) [x0,x1] fun dc=>R (.tuple ⟨[dr,dc]⟩)
theorem att {w0 h Q}(x0 x1:Z)(H:aif w0 (fun v h=>Q (.bC v) h) (fun v h=>Q (.ret v) h) x0 x1 h):WF PP w0 aih [x0,x1] h Q:=
 fm cq atu [] (by kernel_rfl) (Eq.mp (by kernel_rfl) H)
def aii (w0:World) (E R:ZZF) (x0 x1:Z):W:=cl PP w0 aih [x0,x1] E fun v1=>pr (.extract 0) [v1] fun v2=>pr (.extract 1) [v1] fun v3=>R (.tuple ⟨[v2,v3]⟩)
def aij (w0:World) (E R:ZZF) (x0 x1:Z):W:=br (.bool false) (pr (.conv .u32) [x0] fun v4=>pr (.conv .u32) [x1] fun v5=>cl PP w0 atv [v4,v5] E fun v6=>pr (.extract 0) [v6] fun v7=>pr (.extract 1) [v6] fun v8=>pr (.conv .u64) [v7] fun v9=>pr (.conv .u64) [v8] fun v10=>R (.tuple ⟨[v9,v10]⟩)) (aii w0 E R x0 x1)
theorem atw {w0 h Q}(x0 x1:Z)(H:aij w0 (fun v h=>Q (.bC v) h) (fun v h=>Q (.ret v) h) x0 x1 h):WF PP w0 YQ [x0,x1] h Q:=
 fm cq atx [] (by kernel_rfl) (Eq.mp (by kernel_rfl) H)
def aik (w0:World) (E R:ZZF) (v8:Z):W:=R v8
def ail (w0:World) (E R:ZZF) (v8 fX:Z) (YR:ZZF):W:=pr (.slice 1 true false false) [v8,fX] fun v12=>pr (.slice 1 false true false) [v8,fX] fun bW=>pr (.copy 1) [v12,bW] fun cD=>ck .move [fX] fX (pr (.aL .add) [fX,cD] fun b9=>YR b9)
def aim (w0:World) (E R:ZZF) (v8:Z) (YR:ZZF) (fX:Z):W:=pr .cb [v8] fun dr=>pr (.aL .lss) [fX,dr] fun dc=>br dc (ail w0 E R v8 fX YR) (aik w0 E R v8)
def ain (w0:World) (E R:ZZF) (v6 x0:Z):W:=pr (.conv .i64) [v6] fun v7=>pr (.mkSlice 3 1 [vi 0]) [v7,v7] fun v8=>pr (.copy 1) [v8,x0] fun v9=>LP (α:=Z) (fun k a=>aim w0 E R v8 k a) (v9)
def aio (w0:World) (E R:ZZF) (v6 x0 v21:Z):W:=br v21 (pr (.YS 9) [(bs [116,104,101,32,114,101,115,117,108,116,32,111,102,32,40,108,101,110,40,120,41,32,42,32,99,111,117,110,116,41,32,111,118,101,114,102,108,111,119,115])] fun gX=>pn [gX] E) (ain w0 E R v6 x0)
def aip (w0:World) (E R:ZZF) (x0 x1:Z):W:=pr .cb [x0] fun v1=>pr (.conv .u64) [v1] fun v2=>pr (.conv .u64) [x1] fun v3=>cl PP w0 YQ [v2,v3] E fun v4=>pr (.extract 0) [v4] fun v5=>pr (.extract 1) [v4] fun v6=>pr (.aL .gtr) [v5,.int .u64 0] fun aq=>gd aq false (fun k=>k v6) fun dS=>gd aq false (fun k=>pr (.aL .gtr) [dS,.int .u64 9223372036854775807] k) fun v20=>pr .pick [aq,.bool true,v20] fun v21=>aio w0 E R v6 x0 v21
def aiq (w0:World) (E R:ZZF) (x0 x1:Z):W:=pr (.aL .lss) [x1,vi 0] fun fE=>br fE (pr (.YS 9) [(bs [99,97,110,110,111,116,32,98,101,32,110,101,103,97,116,105,118,101])] fun v24=>pn [v24] E) (aip w0 E R x0 x1)
theorem aty {w0 h Q}(x0 x1:Z)(H:aiq w0 (fun v h=>Q (.bC v) h) (fun v h=>Q (.ret v) h) x0 x1 h):WF PP w0 YT [x0,x1] h Q:=
 fm cq atz [[s8]] (by kernel_rfl) (Eq.mp (by kernel_rfl) H)
def YU (w0:World) (E R:ZZF)  :W:=R (vi 0)
def Rk (w0:World) (E R:ZZF) (y8:Z):W:=br y8 (R (vi (-1))) (YU w0 E R)
def YV (w0:World) (E R:ZZF) (v1 x1 cD:Z):W:=br cD (Rk w0 E R  cD) (pr (.fieldAddr 0) [v1] fun b9=>pr .aB [b9] fun dr=>pr (.aL .eql) [dr,vi 32] fun dc=>gd dc true (fun k=>k x1) fun aq=>gd dc true (fun k=>pr (.aL .eql) [aq,vi 1] k) fun dS=>pr .pick [dc,dS,.bool false] fun v20=>Rk w0 E R  v20)
def YW (w0:World) (E R:ZZF) (v1 x1 v7:Z):W:=br v7 (R (vi 1)) (pr (.fieldAddr 0) [v1] fun v9=>pr .aB [v9] fun v10=>pr (.aL .eql) [v10,vi 31] fun v11=>gd v11 true (fun k=>k x1) fun v12=>gd v11 true (fun k=>pr (.aL .eql) [v12,vi 0] k) fun bW=>pr .pick [v11,bW,.bool false] fun cD=>YV w0 E R v1 x1 cD)
def air (w0:World) (E R:ZZF) (x0 x1:Z):W:=pr (.box 67) [x0] fun v1=>pr (.fieldAddr 0) [v1] fun v2=>pr .aB [v2] fun v3=>pr (.aL .eql) [v3,vi 30] fun v4=>gd v4 true (fun k=>k x1) fun v5=>gd v4 true (fun k=>pr (.aL .eql) [v5,vi 0] k) fun v6=>pr .pick [v4,v6,.bool false] fun v7=>YW w0 E R v1 x1 v7
theorem atA {w0 h Q}(x0 x1:Z)(H:air w0 (fun v h=>Q (.bC v) h) (fun v h=>Q (.ret v) h) x0 x1 h):WF PP w0 YX [x0,x1] h Q:=
 fm cq atB [] (by kernel_rfl) (Eq.mp (by kernel_rfl) H)
def Rl (w0:World) (E R:ZZF) (v9 v2 v3:Z) (d14:List Nat):W:=pr .aB [v9] fun b9=>pr (.store 1) [v2,b9] fun dr=>pr (.store 1) [v3,.bool true] fun dc=>iH (d14) (ld .aB [v2] fun aq=>ld .aB [v3] fun dS=>R (.tuple ⟨[aq,dS]⟩))
def Rm (w0:World) (E R:ZZF) (ej:Z) (sZ:Z→List Nat→W) (d27:List Nat):W:=pr .aB [ej] fun v28=>pr (.alloc 28 [bJ]) [] fun du=>pr (.store 1) [du,v28] fun v30=>pr .aB [du] fun v31=>pr (.slice 1 true false false) [v31,vi 1] fun iR=>pr (.store 1) [du,iR] fun jA=>sZ du (d27)
def Rn (w0:World) (E R:ZZF) (v9 dI l8 ej:Z) (rO:LO) (rP:Nat):W:=pr .aB [v9] fun iv=>pr (.cf 1) [iv,dI] fun lf=>pr .aB [lf] fun bX=>pr (.aL .lss) [bX,vi 0] fun jI=>br jI (pr .aB [v9] fun mu=>pr (.cf 1) [mu,dI] fun mw=>pr (.store 1) [mw,l8] fun n5=>pr .aB [ej] fun v70=>pr (.buildSlice 3 1 [vi 0] [(0,1)]) [dI] fun ie=>pr (.append 3 1 [vi 0]) [v70,ie] fun v72=>pr (.store 1) [ej,v72] fun eB=>lg rO rP .ready none true R) (lg rO rP .ready none true R)
def Kw (w0:World) (E R:ZZF) (v9 dI v2 v3:Z) (rO:LO) (rP:Nat) (ej l8:Z):W:=cl PP w0 j5 [l8,vi 0,vi 40] qd fun iy=>pr .ed [iy] fun v75=>gd v75 false (fun k=>pr .aB [v9] k) fun v76=>gd v75 false (fun k=>k dI) fun rK=>gd v75 false (fun k=>pr (.cf 1) [v76,rK] k) fun oQ=>gd v75 false (fun k=>pr .aB [oQ] k) fun my=>gd v75 false (fun k=>pr (.aL .geq) [my,vi 0] k) fun v80=>gd v75 false (fun k=>k v80) fun kL=>gd kL true (fun k=>pr .aB [v9] k) fun rM=>gd kL true (fun k=>k dI) fun rN=>gd kL true (fun k=>pr (.cf 1) [rM,rN] k) fun cI=>gd kL true (fun k=>pr .aB [cI] k) fun v85=>gd kL true (fun k=>k l8) fun kM=>gd kL true (fun k=>pr (.aL .neq) [v85,kM] k) fun v87=>gd v75 false (fun k=>pr .pick [kL,v87,.bool false] k) fun l5=>pr .pick [v75,.bool true,l5] fun l7=>br l7 (pr (.store 1) [v2,bJ] fun sW=>pr (.store 1) [v3,.bool false] fun v91=>lg rO rP .done (some .ret) false R) (Rn w0 E R v9 dI l8 ej rO rP)
def Ro (w0:World) (E R:ZZF) (v9 v37 v1 v2 v3 ej:Z) (rO:LO) (rP:Nat) (dI n6:Z):W:=wO rO rP (rQ rO rP (pr .aB [v9] fun v51=>pr .aB [v37] fun bS=>pr (.cf 1) [v51,bS] fun v53=>pr .aB [v53] fun lb=>pr (.fieldAddr 5) [v1] fun cr=>pr .aB [cr] fun cG=>pr .aB [v37] fun dB=>pr (.cf 4) [cG,dB] fun iG=>pr (.bZ 4) [iG] fun v59=>cl PP w0 YX [v59,n6] qd fun mQ=>ck .aB [v53] lb (ck (.cf 1) [v51,bS] v53 (ck .aB [v37] bS (ck .aB [v9] v51 (pr (.aL .add) [lb,mQ] fun cm=>pr (.aL .eql) [n6,vi 2] fun ig=>br ig (Kw w0 E R v9 dI v2 v3 rO rP ej (vi 0)) (Kw w0 E R v9 dI v2 v3 rO rP ej cm)))))))
def Rp (w0:World) (E R:ZZF) (ej v1 v9 v2 v3:Z) (sZ:Z→List Nat→W) (d26:List Nat):W:=pr .aB [ej] fun eO=>pr (.cf 1) [eO,vi 0] fun dM=>pr .aB [dM] fun ja=>pr (.alloc 3 [vi 0]) [] fun v37=>pr (.store 1) [v37,ja] fun eT=>pr (.bZ 7) [v1] fun bh=>pr .aB [v37] fun v40=>cl PP w0 Hj [bh,v40] (cE (d26) E) fun aN=>Ev PP w0 aN (fun rO rP z44 R=>Hk (fun dI n6=>Ro w0 qd R v9 v37 v1 v2 v3 ej rO rP dI n6) z44) (fun uG=>cE (uG::d26) E) (fun uG z45=>zW z45 (Rm w0 E R ej sZ (uG::d26)) (iH (uG::d26) (ld .aB [v2] fun v49=>ld .aB [v3] fun jz=>R (.tuple ⟨[v49,jz]⟩))) [])
def Kx (w0:World) (E R:ZZF) (v1 v9 v2 v3:Z) (sZ:Z→List Nat→W) (ej:Z) (d25:List Nat):W:=pr .aB [ej] fun v93=>pr .cb [v93] fun jb=>pr (.aL .gtr) [jb,vi 0] fun kO=>br kO (Rp w0 E R ej v1 v9 v2 v3 sZ (d25)) (Rl w0 E R v9 v2 v3 (d25))
def ais (w0:World) (E R:ZZF) (x0:Z):W:=pr (.box 25) [x0] fun v1=>pr (.alloc 28 [bJ]) [] fun v2=>pr (.alloc 4 [.bool false]) [] fun v3=>pr (.buildSlice 3 1 [vi 0] [(0,1)]) [(vi (-1))] fun v4=>pr (.fieldAddr 5) [v1] fun v5=>pr .aB [v5] fun v6=>pr .cb [v6] fun v7=>cl PP w0 YT [v4,v7] (cE (([]:List Nat)) E) fun v8=>pr (.alloc 28 [bJ]) [] fun v9=>pr (.store 1) [v9,v8] fun v10=>pr .aB [v9] fun v11=>pr (.cf 1) [v11,vi 0] fun v12=>pr (.store 1) [v12,vi 0] fun bW=>pr (.buildSlice 3 1 [vi 0] [(0,1)]) [vi 0] fun v20=>pr (.alloc 28 [bJ]) [] fun v21=>pr (.store 1) [v21,v20] fun gX=>LP (α:=(Z)×List Nat) (fun k a=>Kx w0 E R v1 v9 v2 v3 (fun b0 q=>k ((b0),q)) a.1 a.2) ((v21),([]:List Nat))
theorem atC {w0 h Q}(x0:Z)(H:ais w0 (fun v h=>Q (.bC v) h) (fun v h=>Q (.ret v) h) x0 h):WF PP w0 Rq [x0] h Q:=by
 let E:ZZF:=fun v h=>Q (.bC v) h
 let R:ZZF:=fun v h=>Q (.ret v) h
 refine Ky cq e54 (dC (cT (aT (vs:=[x0]) (by kernel_rfl) H fun v1 h H=>?_)));refine aT (vs:=[]) (by kernel_rfl) H fun v2 h H=>?_;refine aT (vs:=[]) (by kernel_rfl) H fun v3 h H=>?_;refine cU (dD (dC (cT (aT (vs:=[(vi (-1))]) (by kernel_rfl) H fun v4 h H=>?_))));refine aT (vs:=[v1]) (by kernel_rfl) H fun v5 h H=>?_;refine aT (vs:=[v5]) (by kernel_rfl) H fun v6 h H=>?_;refine aT (vs:=[v6]) (by kernel_rfl) H fun v7 h H=>?_;refine ta (vs:=[v4,v7]) (by kernel_rfl) H (fun _ _ H=>oR (P:=PP) (w0:=w0) Hl.results Q (([]:List Nat)) (by kernel_rfl) H) fun v8 h H=>?_;refine aT (vs:=[]) (by kernel_rfl) H fun v9 h H=>?_;refine aT (vs:=[v9,v8]) (by kernel_rfl) H fun v10 h H=>?_;refine cU (dD (dC (cT (aT (vs:=[v9]) (by kernel_rfl) H fun v11 h H=>?_))));refine aT (vs:=[v11,vi 0]) (by kernel_rfl) H fun v12 h H=>?_;refine aT (vs:=[v12,vi 0]) (by kernel_rfl) H fun bW h H=>?_;refine cU (dD (mS (rs:=([]:List Nat)) (α:=Unit) [(s2,v2),(s3,v3),(s4,v9)] (fun a=>[]) (fun σ=>()) (fun a q=>Rl w0 E R v9 v2 v3  q) (fun σ=>trivial) (fun a1 d14 σ h H=>?_) ?_))
 · refine dC (cT (aT (vs:=[v9]) (by kernel_rfl) H fun b9 h H=>?_));refine aT (vs:=[v2,b9]) (by kernel_rfl) H fun dr h H=>?_;refine aT (vs:=[v3,.bool true]) (by kernel_rfl) H fun dc h H=>?_;refine cU (dD ?_);exact tc (P:=PP) (w0:=w0) Hl.results Q (d14) (by kernel_rfl) (Eq.mp (by kernel_rfl) H)
 · refine dC (cT (aT (vs:=[vi 0]) (by kernel_rfl) H fun v20 h H=>?_));refine aT (vs:=[]) (by kernel_rfl) H fun v21 h H=>?_;refine aT (vs:=[v21,v20]) (by kernel_rfl) H fun gX h H=>?_;refine cU (dD (n7 (Kz cq (rs:=([]:List Nat)) (α:=Z) [(s1,v1),(s2,v2),(s3,v3),(s4,v9)] (fun a=>[(s5,a)]) (fun σ=>(σ s5)) (fun k a=>Kx w0 E R v1 v9 v2 v3 (fun b0 q=>k ((b0),q)) a.1 a.2) (fun σ=>(And.intro rfl trivial)) (fun Rr a2 d25 σ h H=>?_) (x:=(v21)) (by kernel_rfl) (Eq.mp (by kernel_rfl) (And.intro (Eq.refl (v1:Z)) (And.intro (Eq.refl (v2:Z)) (And.intro (Eq.refl (v3:Z)) (And.intro (Eq.refl (v9:Z)) trivial))))) H)));refine mS (rs:=d25) (α:=Unit) [(s1,v1),(s2,v2),(s3,v3),(s4,v9),(s5,a2)] (fun a=>[]) (fun σ=>()) (fun a q=>Rp w0 E R a2 v1 v9 v2 v3 (fun b0 q=>Rr ((b0),q))  q) (fun σ=>trivial) (fun a3 d26 σ h H=>?_) ?_
   · refine mS (rs:=d26) (α:=Unit) [(s1,v1),(s2,v2),(s3,v3),(s4,v9),(s5,a2)] (fun a=>[]) (fun σ=>()) (fun a q=>Rm w0 E R a2 (fun b0 q=>Rr ((b0),q))  q) (fun σ=>trivial) (fun a4 d27 σ h H=>?_) ?_
     · refine dC (dC (cT (aT (vs:=[a2]) (by kernel_rfl) H fun v28 h H=>?_)));refine cU (dD (cT (aT (vs:=[]) (by kernel_rfl) H fun du h H=>?_)));refine aT (vs:=[du,v28]) (by kernel_rfl) H fun v30 h H=>?_;refine cU (dD (cT (aT (vs:=[du]) (by kernel_rfl) H fun v31 h H=>?_)));refine aT (vs:=[v31,vi 1]) (by kernel_rfl) H fun iR h H=>?_;refine aT (vs:=[du,iR]) (by kernel_rfl) H fun jA h H=>?_;refine cU ?_;exact Exists.intro (d27) (Eq.mp (by kernel_rfl) (And.intro (Eq.refl (gn (d27))) (And.intro (And.intro (Eq.refl (v1:Z)) (And.intro (Eq.refl (v2:Z)) (And.intro (Eq.refl (v3:Z)) (And.intro (Eq.refl (v9:Z)) trivial)))) H)))
     · refine n7 (dC (cT (aT (vs:=[a2]) (by kernel_rfl) H fun eO h H=>?_)));refine aT (vs:=[eO,vi 0]) (by kernel_rfl) H fun dM h H=>?_;refine aT (vs:=[dM]) (by kernel_rfl) H fun ja h H=>?_;refine aT (vs:=[]) (by kernel_rfl) H fun v37 h H=>?_;refine aT (vs:=[v37,ja]) (by kernel_rfl) H fun eT h H=>?_;refine cU (dD (dC (cT (aT (vs:=[v1]) (by kernel_rfl) H fun bh h H=>?_))));refine aT (vs:=[v37]) (by kernel_rfl) H fun v40 h H=>?_;refine ta (vs:=[bh,v40]) (by kernel_rfl) H (fun _ _ H=>oR (P:=PP) (w0:=w0) Hl.results Q (d26) (by kernel_rfl) H) fun aN h H=>?_;refine cU (dD (n7 (Rs cq (rs:=d26) _ _ _ _ _ (fv:=aN) (by kernel_rfl) H (fun uG _ _ H=>oR (P:=PP) (w0:=w0) Hl.results Q (uG::d26) (by kernel_rfl) H) (fun uG h H=>?_) (fun uG h H=>?_) (fun uG=>trivial) (fun rO YY rP z44 R h H=>?_))))
       · refine qR (qR ?_);exact Exists.intro (uG::d26) (Eq.mp (by kernel_rfl) (And.intro (Eq.refl (gn (uG::d26))) (And.intro (And.intro (Eq.refl (v1:Z)) (And.intro (Eq.refl (v2:Z)) (And.intro (Eq.refl (v3:Z)) (And.intro (Eq.refl (v9:Z)) (And.intro (Eq.refl (a2:Z)) trivial))))) H)))
       · exact tc (P:=PP) (w0:=w0) Hl.results Q (uG::d26) (by kernel_rfl) (Eq.mp (by kernel_rfl) H)
       · obtain⟨dI,n6,rfl,H⟩:=Ru H
         let E:ZZF:=qd
         have H2:=Rv H;refine⟨H2.1,rfl,?_⟩;have H:=H2.2;refine dC (cT (eo (v:=dI) (by kernel_rfl) (cU (dD (cT (eo (v:=n6) (by kernel_rfl) (cU (Rw H (fun h H=>?_)))))))));refine n7 (dC (YZ (qe (vs:=[v9]) (by kernel_rfl) H fun v51 h H=>?_)));refine qe (vs:=[v37]) (by kernel_rfl) H fun bS h H=>?_;refine qe (vs:=[v51,bS]) (by kernel_rfl) H fun v53 h H=>?_;refine qe (vs:=[v53]) (by kernel_rfl) H fun lb h H=>?_;refine qe (vs:=[v1]) (by kernel_rfl) H fun cr h H=>?_;refine qe (vs:=[cr]) (by kernel_rfl) H fun cG h H=>?_;refine qe (vs:=[v37]) (by kernel_rfl) H fun dB h H=>?_;refine qe (vs:=[cG,dB]) (by kernel_rfl) H fun iG h H=>?_;refine qe (vs:=[iG]) (by kernel_rfl) H fun v59 h H=>?_;refine ait (v:=n6) (by kernel_rfl) (atD (vs:=[v59,n6]) (by kernel_rfl) H (fun _ _ H=>False.elim H) fun mQ h H=>?_);refine Ew (v:=lb) (vs:=[v53]) rfl (by kernel_rfl) (by kernel_rfl) H fun H=>?_;refine Ew (v:=v53) (vs:=[v51,bS]) rfl (by kernel_rfl) (by kernel_rfl) H fun H=>?_;refine Ew (v:=bS) (vs:=[v37]) rfl (by kernel_rfl) (by kernel_rfl) H fun H=>?_;refine Ew (v:=v51) (vs:=[v9]) rfl (by kernel_rfl) (by kernel_rfl) H fun H=>?_;refine qe (vs:=[lb,mQ]) (by kernel_rfl) H fun cm h H=>?_;refine ait (v:=cm) (by kernel_rfl) (Y0 (dD (Rx (α:=Z) [(s2,v2),(s3,v3),(s4,v9),(s5,a2),(s7,dI)] (fun a=>[(s9,a)]) (fun σ=>(σ s9)) (fun a=>Kw w0 E R v9 dI v2 v3 rO rP a2 a) (fun σ=>(And.intro rfl trivial)) (fun a5 σ h H=>?_) ?_)))
         · refine Rx (α:=Unit) [(s4,v9),(s5,a2),(s7,dI),(s9,a5)] (fun a=>[]) (fun σ=>()) (fun a=>Rn w0 E R v9 dI a5 a2 rO rP) (fun σ=>trivial) (fun a6 σ h H=>?_) ?_
           · refine dC (cT (aT (vs:=[v9]) (by kernel_rfl) H fun iv h H=>?_));refine eo (v:=dI) (by kernel_rfl) (aT (vs:=[iv,dI]) (by kernel_rfl) H fun lf h H=>?_);refine aT (vs:=[lf]) (by kernel_rfl) H fun bX h H=>?_;refine aT (vs:=[bX,vi 0]) (by kernel_rfl) H fun jI h H=>?_;refine cU (dD (mT (v:=jI) (by kernel_rfl) H (fun H=>?_) (fun H=>?_)))
             · refine dC (cT (aT (vs:=[v9]) (by kernel_rfl) H fun mu h H=>?_));refine eo (v:=dI) (by kernel_rfl) (eo (v:=a5) (by kernel_rfl) (aT (vs:=[mu,dI]) (by kernel_rfl) H fun mw h H=>?_));refine aT (vs:=[mw,a5]) (by kernel_rfl) H fun n5 h H=>?_;refine cU (dD (cT (aT (vs:=[a2]) (by kernel_rfl) H fun v70 h H=>?_)));refine eo (v:=dI) (by kernel_rfl) (aT (vs:=[dI]) (by kernel_rfl) H fun ie h H=>?_);refine aT (vs:=[v70,ie]) (by kernel_rfl) H fun v72 h H=>?_;refine aT (vs:=[a2,v72]) (by kernel_rfl) H fun eB h H=>?_;refine cU (qR ?_);exact Eq.mp (by kernel_rfl) (And.intro (Eq.refl ([]:List iS)) H)
             · refine nA (qR ?_);exact Eq.mp (by kernel_rfl) (And.intro (Eq.refl ([]:List iS)) H)
           · refine dC (cT (eo (v:=a5) (by kernel_rfl) (ta (vs:=[a5,vi 0,vi 40]) (by kernel_rfl) H (fun _ _ H=>False.elim H) fun iy h H=>?_)));refine aT (vs:=[iy]) (by kernel_rfl) H fun v75 h H=>?_;refine eo (v:=v75) (by kernel_rfl) (hO (vs:=[v9]) (gv:=v75) (by kernel_rfl) (by kernel_rfl) H fun v76 h H=>?_);refine zX (v:=dI) (gv:=v75) (by kernel_rfl) (by kernel_rfl) H fun rK h H=>?_;refine hO (vs:=[v76,rK]) (gv:=v75) (by kernel_rfl) (by kernel_rfl) H fun oQ h H=>?_;refine hO (vs:=[oQ]) (gv:=v75) (by kernel_rfl) (by kernel_rfl) H fun my h H=>?_;refine hO (vs:=[my,vi 0]) (gv:=v75) (by kernel_rfl) (by kernel_rfl) H fun v80 h H=>?_;refine zX (v:=v80) (gv:=v75) (by kernel_rfl) (by kernel_rfl) H fun kL h H=>?_;refine hO (vs:=[v9]) (gv:=kL) (by kernel_rfl) (by kernel_rfl) H fun rM h H=>?_;refine zX (v:=dI) (gv:=kL) (by kernel_rfl) (by kernel_rfl) H fun rN h H=>?_;refine hO (vs:=[rM,rN]) (gv:=kL) (by kernel_rfl) (by kernel_rfl) H fun cI h H=>?_;refine hO (vs:=[cI]) (gv:=kL) (by kernel_rfl) (by kernel_rfl) H fun v85 h H=>?_;refine zX (v:=a5) (gv:=kL) (by kernel_rfl) (by kernel_rfl) H fun kM h H=>?_;refine hO (vs:=[v85,kM]) (gv:=kL) (by kernel_rfl) (by kernel_rfl) H fun v87 h H=>?_;refine hO (vs:=[kL,v87,.bool false]) (gv:=v75) (by kernel_rfl) (by kernel_rfl) H fun l5 h H=>?_;refine aT (vs:=[v75,.bool true,l5]) (by kernel_rfl) H fun l7 h H=>?_;refine cU (dD (mT (v:=l7) (by kernel_rfl) H (fun H=>?_) (fun H=>?_)))
             · refine dC (cT (aT (vs:=[v2,bJ]) (by kernel_rfl) H fun sW h H=>?_));refine aT (vs:=[v3,.bool false]) (by kernel_rfl) H fun v91 h H=>?_;refine cU (dD ?_);exact Eq.mp (by kernel_rfl) (And.intro (Eq.refl ([]:List iS)) H)
             · refine nA ?_;exact Eq.mp (by kernel_rfl) (And.intro (Eq.refl (⟨[],.off⟩:DS)) (And.intro (And.intro (Eq.refl (v9:Z)) (And.intro (Eq.refl (a2:Z)) (And.intro (Eq.refl (dI:Z)) (And.intro (Eq.refl (a5:Z)) trivial)))) H))
         · refine dC (cT (eo (v:=n6) (by kernel_rfl) (aT (vs:=[n6,vi 2]) (by kernel_rfl) H fun ig h H=>?_)));refine cU (dD (mT (v:=ig) (by kernel_rfl) H (fun H=>?_) (fun H=>?_)))
           · refine cT (eo (v:=(vi 0)) (by kernel_rfl) (cU ?_));exact Eq.mp (by kernel_rfl) (And.intro (Eq.refl (⟨[],.off⟩:DS)) (And.intro (And.intro (Eq.refl (v2:Z)) (And.intro (Eq.refl (v3:Z)) (And.intro (Eq.refl (v9:Z)) (And.intro (Eq.refl (a2:Z)) (And.intro (Eq.refl (dI:Z)) trivial))))) H))
           · refine nA ?_;exact Eq.mp (by kernel_rfl) (And.intro (Eq.refl (⟨[],.off⟩:DS)) (And.intro (And.intro (Eq.refl (v2:Z)) (And.intro (Eq.refl (v3:Z)) (And.intro (Eq.refl (v9:Z)) (And.intro (Eq.refl (a2:Z)) (And.intro (Eq.refl (dI:Z)) trivial))))) H))
   · refine dC (cT (aT (vs:=[a2]) (by kernel_rfl) H fun v93 h H=>?_));refine aT (vs:=[v93]) (by kernel_rfl) H fun jb h H=>?_;refine aT (vs:=[jb,vi 0]) (by kernel_rfl) H fun kO h H=>?_;refine cU (dD (mT (v:=kO) (by kernel_rfl) H (fun H=>?_) (fun H=>?_)))
     · refine nA ?_;exact Exists.intro (d25) (Eq.mp (by kernel_rfl) (And.intro (Eq.refl (gn (d25))) (And.intro (And.intro (Eq.refl (v1:Z)) (And.intro (Eq.refl (v2:Z)) (And.intro (Eq.refl (v3:Z)) (And.intro (Eq.refl (v9:Z)) (And.intro (Eq.refl (a2:Z)) trivial))))) H)))
     · exact Exists.intro (d25) (Eq.mp (by kernel_rfl) (And.intro (Eq.refl (gn (d25))) (And.intro (And.intro (Eq.refl (v2:Z)) (And.intro (Eq.refl (v3:Z)) (And.intro (Eq.refl (v9:Z)) trivial))) H)))
def Ry (w0:World) (E R:ZZF) (v3 v4:Z) (d23:List Nat):W:=pr (.store 1) [v3,vi 0] fun v24=>pr (.store 1) [v4,vi 0] fun ct=>iH (d23) (ld .aB [v3] fun eN=>ld .aB [v4] fun dE=>R (.tuple ⟨[eN,dE]⟩))
def Rz (w0:World) (E R:ZZF) (v2 v3 v4:Z) (d22:List Nat):W:=pr (.bZ 7) [v2] fun v28=>cl PP w0 Rq [v28] (cE (d22) E) fun du=>pr (.extract 0) [du] fun v30=>pr (.extract 1) [du] fun v31=>pr .ed [v31] fun iR=>br iR (pr (.store 1) [v3,vi 12] fun jA=>pr (.store 1) [v4,vi 0] fun eO=>iH (d22) (ld .aB [v3] fun dM=>ld .aB [v4] fun ja=>R (.tuple ⟨[dM,ja]⟩))) (Ry w0 E R v3 v4 (d22))
def RA (w0:World) (E R:ZZF) (iI:Z) (td:Z→List Nat→W) (d45:List Nat):W:=pr (.aL .add) [iI,vi 1] fun v46=>td v46 (d45)
def RB (w0:World) (E R:ZZF) (aq dP v3 v4:Z) (Ex:LO) (Ey:Nat) (ny uH:Z):W:=wO Ex Ey (rQ Ex Ey (pr (.aL .neq) [uH,vi 0] fun cm=>gd cm true (fun k=>pr .aB [aq] k) fun nw=>gd cm true (fun k=>k ny) fun iv=>gd cm true (fun k=>pr (.cf 1) [nw,iv] k) fun lf=>gd cm true (fun k=>pr .aB [lf] k) fun bX=>gd cm true (fun k=>k ny) fun jI=>gd cm true (fun k=>pr (.aL .neq) [bX,jI] k) fun mu=>pr .pick [cm,mu,.bool false] fun mw=>br mw (pr .aB [dP] fun n5=>pr (.store 1) [v3,vi 2] fun v70=>ck .aB [dP] n5 (pr (.store 1) [v4,n5] fun ie=>lg Ex Ey .done (some .ret) false R)) (lg Ex Ey .ready none true R)))
def RD (w0:World) (E R:ZZF) (iI v2 aq v3 v4:Z) (td:Z→List Nat→W) (d44:List Nat):W:=pr (.alloc 3 [vi 0]) [] fun dP=>pr (.store 1) [dP,iI] fun fo=>pr (.bZ 7) [v2] fun v49=>pr .aB [dP] fun jz=>cl PP w0 Hj [v49,jz] (cE (d44) E) fun v51=>Ev PP w0 v51 (fun Ex Ey z54 R=>Hk (fun ny uH=>RB w0 qd R aq dP v3 v4 Ex Ey ny uH) z54) (fun uI=>cE (uI::d44) E) (fun uI z55=>zW z55 (RA w0 E R iI td (uI::d44)) (iH (uI::d44) (ld .aB [v3] fun v59=>ld .aB [v4] fun mQ=>R (.tuple ⟨[v59,mQ]⟩))) [])
def KA (w0:World) (E R:ZZF) (bh v2 aq v3 v4:Z) (td:Z→List Nat→W) (iI:Z) (d42:List Nat):W:=pr (.aL .lss) [iI,bh] fun gY=>br gY (RD w0 E R iI v2 aq v3 v4 td (d42)) (Rz w0 E R v2 v3 v4 (d42))
def RE (w0:World) (E R:ZZF) (v2 aq v3 v4:Z) (d21:List Nat):W:=pr (.fieldAddr 5) [v2] fun v37=>pr .aB [v37] fun eT=>pr .cb [eT] fun bh=>LP (α:=(Z)×List Nat) (fun k a=>KA w0 E R bh v2 aq v3 v4 (fun b0 q=>k ((b0),q)) a.1 a.2) (((vi 0)),d21)
def RF (w0:World) (E R:ZZF) (eP:Z) (kj:Z→List Nat→W) (d80:List Nat):W:=pr (.aL .add) [eP,vi 1] fun kL=>kj kL (d80)
def KB (w0:World) (E R:ZZF) (cI v3 v4:Z) (d108:List Nat):W:=pr (.fieldAddr 0) [cI] fun v109=>pr .aB [v109] fun pG=>pr (.store 1) [v3,vi 2] fun Ez=>ck .aB [v109] pG (ck (.fieldAddr 0) [cI] v109 (pr (.store 1) [v4,pG] fun Hm=>iH (d108) (ld .aB [v3] fun EA=>ld .aB [v4] fun EB=>R (.tuple ⟨[EA,EB]⟩))))
def RG (w0:World) (E R:ZZF) (cI v11:Z) (d79:List Nat) (v3 v4 eP:Z) (kj:Z→List Nat→W) (v107:Z):W:=br v107 (pr (.fieldAddr 0) [cI] fun BX=>pr .aB [BX] fun zY=>cl PP w0 j5 [zY,vi 0,v11] (cE (d79) E) fun v117=>pr .ed [v117] fun zZ=>br zZ (pr (.fieldAddr 0) [cI] fun rR=>pr (.store 1) [rR,vi 0] fun qf=>KB w0 E R cI v3 v4 (d79)) (KB w0 E R cI v3 v4 (d79))) (RF w0 E R eP kj (d79))
def RH (w0:World) (E R:ZZF) (cI v11:Z) (d79:List Nat) (v3 v4 eP:Z) (kj:Z→List Nat→W) (kN:Z):W:=gd kN false (fun k=>pr (.fieldAddr 2) [cI] k) fun zU=>gd kN false (fun k=>pr .aB [zU] k) fun ya=>gd kN false (fun k=>k v11) fun z6=>gd kN false (fun k=>cl PP w0 j5 [ya,vi 0,z6] (cE (d79) E) k) fun v105=>gd kN false (fun k=>pr .ed [v105] k) fun z7=>pr .pick [kN,.bool true,z7] fun v107=>RG w0 E R cI v11 d79 v3 v4 eP kj v107
def RI (w0:World) (E R:ZZF) (cI v2 v11:Z) (d79:List Nat) (v3 v4 eP:Z) (kj:Z→List Nat→W) (jb:Z):W:=gd jb false (fun k=>pr (.fieldAddr 1) [cI] k) fun kO=>gd jb false (fun k=>pr .aB [kO] k) fun zV=>gd jb false (fun k=>pr (.fieldAddr 5) [v2] k) fun mR=>gd jb false (fun k=>pr .aB [mR] k) fun EC=>gd jb false (fun k=>pr .cb [EC] k) fun ED=>gd jb false (fun k=>pr (.aL .gtr) [zV,ED] k) fun yb=>pr .pick [jb,.bool true,yb] fun kN=>RH w0 E R cI v11 d79 v3 v4 eP kj kN
def RJ (w0:World) (E R:ZZF) (eB eP v2 v11 v3 v4:Z) (kj:Z→List Nat→W) (d79:List Nat):W:=pr (.cf 3) [eB,eP] fun rM=>pr (.bZ 3) [rM] fun rN=>pr (.alloc 79 [vi 0,vi 0,vi 0]) [] fun cI=>pr (.store 3) [cI,rN] fun v85=>pr (.fieldAddr 0) [cI] fun kM=>pr .aB [kM] fun v87=>pr (.aL .lss) [v87,vi 0] fun l5=>gd l5 false (fun k=>pr (.fieldAddr 0) [cI] k) fun l7=>gd l5 false (fun k=>pr .aB [l7] k) fun sW=>gd l5 false (fun k=>pr (.fieldAddr 1) [cI] k) fun v91=>gd l5 false (fun k=>pr .aB [v91] k) fun ig=>gd l5 false (fun k=>pr (.aL .geq) [sW,ig] k) fun v93=>pr .pick [l5,.bool true,v93] fun jb=>RI w0 E R cI v2 v11 d79 v3 v4 eP kj jb
def KC (w0:World) (E R:ZZF) (iy eB v2 v11 v3 v4 aq:Z) (kj:Z→List Nat→W) (eP:Z) (d77:List Nat):W:=pr (.aL .lss) [eP,iy] fun oQ=>br oQ (RJ w0 E R eB eP v2 v11 v3 v4 kj (d77)) (RE w0 E R v2 aq v3 v4 (d77))
def RK (w0:World) (E R:ZZF) (v2 v11 v3 v4 aq:Z) (d20:List Nat):W:=pr (.fieldAddr 6) [v2] fun v72=>pr .aB [v72] fun eB=>pr .cb [eB] fun iy=>LP (α:=(Z)×List Nat) (fun k a=>KC w0 E R iy eB v2 v11 v3 v4 aq (fun b0 q=>k ((b0),q)) a.1 a.2) (((vi 0)),d20)
def RL (w0:World) (E R:ZZF) (v1 v2 v3 v4 v11:Z) (d12:List Nat):W:=pr (.bZ 5) [v1] fun bW=>pr (.bZ 7) [v2] fun cD=>cl PP w0 YE [bW,cD] (cE (d12) E) fun b9=>pr (.extract 0) [b9] fun dr=>pr (.extract 1) [b9] fun dc=>pr (.alloc 28 [bJ]) [] fun aq=>pr (.store 1) [aq,dr] fun dS=>pr (.aL .geq) [dc,vi 0] fun z8=>br z8 (pr (.store 1) [v3,vi 2] fun tf=>pr (.store 1) [v4,dc] fun nB=>iH (d12) (ld .aB [v3] fun v124=>ld .aB [v4] fun EE=>R (.tuple ⟨[v124,EE]⟩))) (RK w0 E R v2 v11 v3 v4 aq (d12))
def RM (w0:World) (E R:ZZF) (v2 v3 v4 v1:Z) (d7:List Nat):W:=pr (.fieldAddr 5) [v2] fun v8=>pr .aB [v8] fun v9=>pr .cb [v9] fun v10=>pr (.aL .sub) [v10,vi 1] fun v11=>pr (.fieldAddr 5) [v2] fun qS=>pr .aB [qS] fun v127=>pr (.cf 4) [v127,v11] fun BZ=>pr (.fieldAddr 0) [BZ] fun uJ=>pr .aB [uJ] fun v130=>cl PP w0 x7 [v130] (cE (d7) E) fun v131=>pr (.extract 0) [v131] fun EF=>pr (.extract 1) [v131] fun Hn=>pr (.alloc 138 [(bs []),vi 0,vi 0,vi 0,vi 0,vi 0,vi 0,.bool false,.bool false]) [] fun nC=>pr (.store 9) [nC,EF] fun KD=>pr (.fieldAddr 8) [nC] fun EG=>pr .aB [EG] fun tg=>pr .ed [tg] fun v138=>br v138 (pr (.store 1) [v3,vi 2] fun v139=>pr (.store 1) [v4,v11] fun KE=>iH (d7) (ld .aB [v3] fun v141=>ld .aB [v4] fun KF=>R (.tuple ⟨[v141,KF]⟩))) (RL w0 E R v1 v2 v3 v4 v11 (d7))
def RN (w0:World) (E R:ZZF) (v2 v1 v3 v4:Z) (d6:List Nat):W:=pr (.fieldAddr 5) [v2] fun v143=>pr .aB [v143] fun KG=>pr (.xZ (.func Q3) 0) [v1,v2] fun v145=>cl PP w0 Yk [KG,v145] (cE (d6) E) fun v146=>pr (.aL .geq) [v146,vi 0] fun KH=>br KH (pr (.store 1) [v3,vi 1] fun v148=>pr (.store 1) [v4,v146] fun Y1=>iH (d6) (ld .aB [v3] fun Y2=>ld .aB [v4] fun Y3=>R (.tuple ⟨[Y2,Y3]⟩))) (RM w0 E R v2 v3 v4 v1 (d6))
def RO (w0:World) (E R:ZZF) (v2 v3 v4 v1:Z) (d5:List Nat):W:=pr (.bZ 7) [v2] fun v152=>cl PP w0 X5 [v152] (cE (d5) E) fun vz=>pr (.aL .neq) [vz,vi 0] fun v154=>br v154 (pr (.store 1) [v3,vz] fun Y4=>pr (.store 1) [v4,vi 0] fun yc=>iH (d5) (ld .aB [v3] fun v157=>ld .aB [v4] fun atE=>R (.tuple ⟨[v157,atE]⟩))) (RN w0 E R v2 v1 v3 v4 (d5))
def RP (w0:World) (E R:ZZF) (v3 v4 v2 v1 yd:Z):W:=br yd (pr (.store 1) [v3,vi 4] fun v173=>pr (.store 1) [v4,vi 0] fun atF=>iH (([]:List Nat)) (ld .aB [v3] fun v175=>ld .aB [v4] fun atG=>R (.tuple ⟨[v175,atG]⟩))) (RO w0 E R v2 v3 v4 v1 (([]:List Nat)))
def aiu (w0:World) (E R:ZZF) (x0 x1:Z):W:=pr (.box 51) [x0] fun v1=>pr (.box 25) [x1] fun v2=>pr (.alloc 29 [vi 0]) [] fun v3=>pr (.alloc 3 [vi 0]) [] fun v4=>pr (.fieldAddr 0) [v2] fun v159=>pr .aB [v159] fun v160=>cl PP w0 BW [v160] (cE (([]:List Nat)) E) fun RQ=>pr .ed [RQ] fun v162=>gd v162 false (fun k=>pr (.fieldAddr 1) [v2] k) fun KI=>gd v162 false (fun k=>pr .aB [KI] k) fun v164=>gd v162 false (fun k=>pr (.zT .neq) [v164,(bs [])] k) fun KJ=>gd v162 false (fun k=>k KJ) fun uK=>gd uK true (fun k=>pr (.fieldAddr 1) [v2] k) fun v167=>gd uK true (fun k=>pr .aB [v167] k) fun v168=>gd uK true (fun k=>cl PP w0 BW [v168] (cE (([]:List Nat)) E) k) fun Y5=>gd uK true (fun k=>pr .ed [Y5] k) fun Y6=>gd v162 false (fun k=>pr .pick [uK,Y6,.bool false] k) fun v171=>pr .pick [v162,.bool true,v171] fun yd=>RP w0 E R v3 v4 v2 v1 yd
theorem atH {w0 h Q}(x0:Z)(x1:Z)(H:aiu w0 (fun v h=>Q (.bC v) h) (fun v h=>Q (.ret v) h) x0 x1 h):WF PP w0 RR [x0,x1] h Q:=by
 let E:ZZF:=fun v h=>Q (.bC v) h
 let R:ZZF:=fun v h=>Q (.ret v) h
 refine Ky cq e29 (dC (cT (aT (vs:=[x0]) (by kernel_rfl) H fun v1 h H=>?_)));refine aT (vs:=[x1]) (by kernel_rfl) H fun v2 h H=>?_;refine aT (vs:=[]) (by kernel_rfl) H fun v3 h H=>?_;refine aT (vs:=[]) (by kernel_rfl) H fun v4 h H=>?_;refine cU (dD (mS (rs:=([]:List Nat)) (α:=Unit) [(s2,v1),(s3,v2),(s4,v3),(s5,v4)] (fun a=>[]) (fun σ=>()) (fun a q=>RO w0 E R v2 v3 v4 v1  q) (fun σ=>trivial) (fun a1 d5 σ h H=>?_) ?_))
 · refine mS (rs:=d5) (α:=Unit) [(s2,v1),(s3,v2),(s4,v3),(s5,v4)] (fun a=>[]) (fun σ=>()) (fun a q=>RN w0 E R v2 v1 v3 v4  q) (fun σ=>trivial) (fun a2 d6 σ h H=>?_) ?_
   · refine mS (rs:=d6) (α:=Unit) [(s2,v1),(s3,v2),(s4,v3),(s5,v4)] (fun a=>[]) (fun σ=>()) (fun a q=>RM w0 E R v2 v3 v4 v1  q) (fun σ=>trivial) (fun a3 d7 σ h H=>?_) ?_
     · refine dC (cT (aT (vs:=[v2]) (by kernel_rfl) H fun v8 h H=>?_));refine aT (vs:=[v8]) (by kernel_rfl) H fun v9 h H=>?_;refine aT (vs:=[v9]) (by kernel_rfl) H fun v10 h H=>?_;refine aT (vs:=[v10,vi 1]) (by kernel_rfl) H fun v11 h H=>?_;refine eo (v:=v11) (by kernel_rfl) (cU (dD (mS (rs:=d7) (α:=Unit) [(s2,v1),(s3,v2),(s4,v3),(s5,v4),(s8,v11)] (fun a=>[]) (fun σ=>()) (fun a q=>RL w0 E R v1 v2 v3 v4 v11  q) (fun σ=>trivial) (fun a4 d12 σ h H=>?_) ?_)))
       · refine dC (cT (aT (vs:=[v1]) (by kernel_rfl) H fun bW h H=>?_));refine aT (vs:=[v2]) (by kernel_rfl) H fun cD h H=>?_;refine ta (vs:=[bW,cD]) (by kernel_rfl) H (fun _ _ H=>oR (P:=PP) (w0:=w0) nD.results Q (d12) (by kernel_rfl) H) fun b9 h H=>?_;refine eo (v:=b9) (by kernel_rfl) (aT (vs:=[b9]) (by kernel_rfl) H fun dr h H=>?_);refine aT (vs:=[b9]) (by kernel_rfl) H fun dc h H=>?_;refine aT (vs:=[]) (by kernel_rfl) H fun aq h H=>?_;refine aT (vs:=[aq,dr]) (by kernel_rfl) H fun dS h H=>?_;refine eo (v:=dc) (by kernel_rfl) (cU (dD (mS (rs:=d12) (α:=Unit) [(s3,v2),(s4,v3),(s5,v4),(s8,v11),(pH,aq)] (fun a=>[]) (fun σ=>()) (fun a q=>RK w0 E R v2 v11 v3 v4 aq  q) (fun σ=>trivial) (fun a5 d20 σ h H=>?_) ?_)))
         · refine mS (rs:=d20) (α:=Unit) [(s3,v2),(s4,v3),(s5,v4),(pH,aq)] (fun a=>[]) (fun σ=>()) (fun a q=>RE w0 E R v2 aq v3 v4  q) (fun σ=>trivial) (fun a6 d21 σ h H=>?_) ?_
           · refine mS (rs:=d21) (α:=Unit) [(s3,v2),(s4,v3),(s5,v4)] (fun a=>[]) (fun σ=>()) (fun a q=>Rz w0 E R v2 v3 v4  q) (fun σ=>trivial) (fun a7 d22 σ h H=>?_) ?_
             · refine mS (rs:=d22) (α:=Unit) [(s4,v3),(s5,v4)] (fun a=>[]) (fun σ=>()) (fun a q=>Ry w0 E R v3 v4  q) (fun σ=>trivial) (fun a8 d23 σ h H=>?_) ?_
               · refine dC (cT (aT (vs:=[v3,vi 0]) (by kernel_rfl) H fun v24 h H=>?_));refine aT (vs:=[v4,vi 0]) (by kernel_rfl) H fun ct h H=>?_;refine cU (dD ?_);exact tc (P:=PP) (w0:=w0) nD.results Q (d23) (by kernel_rfl) (Eq.mp (by kernel_rfl) H)
               · refine dC (cT (aT (vs:=[v2]) (by kernel_rfl) H fun v28 h H=>?_));refine ta (vs:=[v28]) (by kernel_rfl) H (fun _ _ H=>oR (P:=PP) (w0:=w0) nD.results Q (d22) (by kernel_rfl) H) fun du h H=>?_;refine eo (v:=du) (by kernel_rfl) (aT (vs:=[du]) (by kernel_rfl) H fun v30 h H=>?_);refine aT (vs:=[du]) (by kernel_rfl) H fun v31 h H=>?_;refine eo (v:=v30) (by kernel_rfl) (eo (v:=v31) (by kernel_rfl) (cU (dD (dC (cT (eo (v:=v31) (by kernel_rfl) (aT (vs:=[v31]) (by kernel_rfl) H fun iR h H=>?_)))))));refine cU (dD (mT (v:=iR) (by kernel_rfl) H (fun H=>?_) (fun H=>?_)))
                 · refine dC (cT (aT (vs:=[v3,vi 12]) (by kernel_rfl) H fun jA h H=>?_));refine aT (vs:=[v4,vi 0]) (by kernel_rfl) H fun eO h H=>?_;refine cU (dD ?_);exact tc (P:=PP) (w0:=w0) nD.results Q (d22) (by kernel_rfl) (Eq.mp (by kernel_rfl) H)
                 · refine nA ?_;exact Exists.intro (d22) (Eq.mp (by kernel_rfl) (And.intro (Eq.refl (gn (d22))) (And.intro (And.intro (Eq.refl (v3:Z)) (And.intro (Eq.refl (v4:Z)) trivial)) H)))
             · refine dC (cT (aT (vs:=[v2]) (by kernel_rfl) H fun v37 h H=>?_));refine aT (vs:=[v37]) (by kernel_rfl) H fun eT h H=>?_;refine aT (vs:=[eT]) (by kernel_rfl) H fun bh h H=>?_;refine eo (v:=(vi 0)) (by kernel_rfl) (cU (dD (n7 (Kz cq (rs:=d21) (α:=Z) [(s3,v2),(s4,v3),(s5,v4),(pH,aq),(KK,bh)] (fun a=>[(Aa,a)]) (fun σ=>(σ Aa)) (fun k a=>KA w0 E R bh v2 aq v3 v4 (fun b0 q=>k ((b0),q)) a.1 a.2) (fun σ=>(And.intro rfl trivial)) (fun k_9 a9 d42 σ h H=>?_) (x:=((vi 0))) (by kernel_rfl) (Eq.mp (by kernel_rfl) (And.intro (Eq.refl (v2:Z)) (And.intro (Eq.refl (v3:Z)) (And.intro (Eq.refl (v4:Z)) (And.intro (Eq.refl (aq:Z)) (And.intro (Eq.refl (bh:Z)) trivial)))))) H))));refine dC (cT (aT (vs:=[a9,bh]) (by kernel_rfl) H fun gY h H=>?_));refine cU (dD (mS (rs:=d42) (α:=Unit) [(s3,v2),(s4,v3),(s5,v4),(pH,aq),(KK,bh),(Aa,a9)] (fun a=>[]) (fun σ=>()) (fun a q=>RD w0 E R a9 v2 aq v3 v4 (fun b0 q=>k_9 ((b0),q))  q) (fun σ=>trivial) (fun Y7 d44 σ h H=>?_) ?_))
               · refine mS (rs:=d44) (α:=Unit) [(s3,v2),(s4,v3),(s5,v4),(pH,aq),(KK,bh),(Aa,a9)] (fun a=>[]) (fun σ=>()) (fun a q=>RA w0 E R a9 (fun b0 q=>k_9 ((b0),q))  q) (fun σ=>trivial) (fun a11 d45 σ h H=>?_) ?_
                 · refine cT (aT (vs:=[a9,vi 1]) (by kernel_rfl) H fun v46 h H=>?_);refine eo (v:=v46) (by kernel_rfl) (cU ?_);exact Exists.intro (d45) (Eq.mp (by kernel_rfl) (And.intro (Eq.refl (gn (d45))) (And.intro (And.intro (Eq.refl (v2:Z)) (And.intro (Eq.refl (v3:Z)) (And.intro (Eq.refl (v4:Z)) (And.intro (Eq.refl (aq:Z)) (And.intro (Eq.refl (bh:Z)) trivial))))) H)))
                 · refine n7 (dC (cT (eo (v:=a9) (by kernel_rfl) (aT (vs:=[]) (by kernel_rfl) H fun dP h H=>?_))));refine aT (vs:=[dP,a9]) (by kernel_rfl) H fun fo h H=>?_;refine cU (dD (dC (cT (aT (vs:=[v2]) (by kernel_rfl) H fun v49 h H=>?_))));refine aT (vs:=[dP]) (by kernel_rfl) H fun jz h H=>?_;refine ta (vs:=[v49,jz]) (by kernel_rfl) H (fun _ _ H=>oR (P:=PP) (w0:=w0) nD.results Q (d44) (by kernel_rfl) H) fun v51 h H=>?_;refine cU (dD (n7 (Rs cq (rs:=d44) _ _ _ _ _ (fv:=v51) (by kernel_rfl) H (fun uI _ _ H=>oR (P:=PP) (w0:=w0) nD.results Q (uI::d44) (by kernel_rfl) H) (fun uI h H=>?_) (fun uI h H=>?_) (fun uI=>trivial) (fun Ex YY Ey z54 R h H=>?_))))
                   · refine qR (qR ?_);exact Exists.intro (uI::d44) (Eq.mp (by kernel_rfl) (And.intro (Eq.refl (gn (uI::d44))) (And.intro (And.intro (Eq.refl (v2:Z)) (And.intro (Eq.refl (v3:Z)) (And.intro (Eq.refl (v4:Z)) (And.intro (Eq.refl (aq:Z)) (And.intro (Eq.refl (bh:Z)) (And.intro (Eq.refl (a9:Z)) trivial)))))) H)))
                   · exact tc (P:=PP) (w0:=w0) nD.results Q (uI::d44) (by kernel_rfl) (Eq.mp (by kernel_rfl) H)
                   · obtain⟨ny,uH,rfl,H⟩:=Ru H
                     let E:ZZF:=qd
                     have H2:=Rv H;refine⟨H2.1,rfl,?_⟩;have H:=H2.2;refine dC (cT (eo (v:=ny) (by kernel_rfl) (cU (dD (cT (eo (v:=uH) (by kernel_rfl) (cU (Rw H (fun h H=>?_)))))))));refine n7 (dC (cT (eo (v:=uH) (by kernel_rfl) (aT (vs:=[uH,vi 0]) (by kernel_rfl) H fun cm h H=>?_))));refine eo (v:=cm) (by kernel_rfl) (hO (vs:=[aq]) (gv:=cm) (by kernel_rfl) (by kernel_rfl) H fun nw h H=>?_);refine zX (v:=ny) (gv:=cm) (by kernel_rfl) (by kernel_rfl) H fun iv h H=>?_;refine hO (vs:=[nw,iv]) (gv:=cm) (by kernel_rfl) (by kernel_rfl) H fun lf h H=>?_;refine hO (vs:=[lf]) (gv:=cm) (by kernel_rfl) (by kernel_rfl) H fun bX h H=>?_;refine zX (v:=ny) (gv:=cm) (by kernel_rfl) (by kernel_rfl) H fun jI h H=>?_;refine hO (vs:=[bX,jI]) (gv:=cm) (by kernel_rfl) (by kernel_rfl) H fun mu h H=>?_;refine aT (vs:=[cm,mu,.bool false]) (by kernel_rfl) H fun mw h H=>?_;refine cU (dD (mT (v:=mw) (by kernel_rfl) H (fun H=>?_) (fun H=>?_)))
                     · refine dC (YZ (qe (vs:=[dP]) (by kernel_rfl) H fun n5 h H=>?_));refine qe (vs:=[v3,vi 2]) (by kernel_rfl) H fun v70 h H=>?_;refine Ew (v:=n5) (vs:=[dP]) rfl (by kernel_rfl) (by kernel_rfl) H fun H=>?_;refine qe (vs:=[v4,n5]) (by kernel_rfl) H fun ie h H=>?_;refine Y0 (dD ?_);exact Eq.mp (by kernel_rfl) (And.intro (Eq.refl ([]:List iS)) H)
                     · refine nA (qR ?_);exact Eq.mp (by kernel_rfl) (And.intro (Eq.refl ([]:List iS)) H)
               · refine mT (v:=gY) (by kernel_rfl) H (fun H=>?_) (fun H=>?_)
                 · refine nA ?_;exact Exists.intro (d42) (Eq.mp (by kernel_rfl) (And.intro (Eq.refl (gn (d42))) (And.intro (And.intro (Eq.refl (v2:Z)) (And.intro (Eq.refl (v3:Z)) (And.intro (Eq.refl (v4:Z)) (And.intro (Eq.refl (aq:Z)) (And.intro (Eq.refl (bh:Z)) (And.intro (Eq.refl (a9:Z)) trivial)))))) H)))
                 · exact Exists.intro (d42) (Eq.mp (by kernel_rfl) (And.intro (Eq.refl (gn (d42))) (And.intro (And.intro (Eq.refl (v2:Z)) (And.intro (Eq.refl (v3:Z)) (And.intro (Eq.refl (v4:Z)) trivial))) H)))
           · refine dC (cT (aT (vs:=[v2]) (by kernel_rfl) H fun v72 h H=>?_));refine aT (vs:=[v72]) (by kernel_rfl) H fun eB h H=>?_;refine aT (vs:=[eB]) (by kernel_rfl) H fun iy h H=>?_;refine eo (v:=(vi 0)) (by kernel_rfl) (cU (dD (n7 (Kz cq (rs:=d20) (α:=Z) [(s3,v2),(s4,v3),(s5,v4),(s8,v11),(pH,aq),(B0,eB),(EH,iy)] (fun a=>[(wP,a)]) (fun σ=>(σ wP)) (fun k a=>KC w0 E R iy eB v2 v11 v3 v4 aq (fun b0 q=>k ((b0),q)) a.1 a.2) (fun σ=>(And.intro rfl trivial)) (fun aiv a12 d77 σ h H=>?_) (x:=((vi 0))) (by kernel_rfl) (Eq.mp (by kernel_rfl) (And.intro (Eq.refl (v2:Z)) (And.intro (Eq.refl (v3:Z)) (And.intro (Eq.refl (v4:Z)) (And.intro (Eq.refl (v11:Z)) (And.intro (Eq.refl (aq:Z)) (And.intro (Eq.refl (eB:Z)) (And.intro (Eq.refl (iy:Z)) trivial)))))))) H))));refine dC (cT (aT (vs:=[a12,iy]) (by kernel_rfl) H fun oQ h H=>?_));refine cU (dD (mS (rs:=d77) (α:=Unit) [(s3,v2),(s4,v3),(s5,v4),(s8,v11),(pH,aq),(B0,eB),(EH,iy),(wP,a12)] (fun a=>[]) (fun σ=>()) (fun a q=>RJ w0 E R eB a12 v2 v11 v3 v4 (fun b0 q=>aiv ((b0),q))  q) (fun σ=>trivial) (fun a13 d79 σ h H=>?_) ?_))
             · refine mS (rs:=d79) (α:=Unit) [(s3,v2),(s4,v3),(s5,v4),(s8,v11),(pH,aq),(B0,eB),(EH,iy),(wP,a12)] (fun a=>[]) (fun σ=>()) (fun a q=>RF w0 E R a12 (fun b0 q=>aiv ((b0),q))  q) (fun σ=>trivial) (fun a14 d80 σ h H=>?_) ?_
               · refine cT (aT (vs:=[a12,vi 1]) (by kernel_rfl) H fun kL h H=>?_);refine eo (v:=kL) (by kernel_rfl) (cU ?_);exact Exists.intro (d80) (Eq.mp (by kernel_rfl) (And.intro (Eq.refl (gn (d80))) (And.intro (And.intro (Eq.refl (v2:Z)) (And.intro (Eq.refl (v3:Z)) (And.intro (Eq.refl (v4:Z)) (And.intro (Eq.refl (v11:Z)) (And.intro (Eq.refl (aq:Z)) (And.intro (Eq.refl (eB:Z)) (And.intro (Eq.refl (iy:Z)) trivial))))))) H)))
               · refine n7 (dC (cT (aT (vs:=[eB,a12]) (by kernel_rfl) H fun rM h H=>?_)));refine aT (vs:=[rM]) (by kernel_rfl) H fun rN h H=>?_;refine aT (vs:=[]) (by kernel_rfl) H fun cI h H=>?_;refine aT (vs:=[cI,rN]) (by kernel_rfl) H fun v85 h H=>?_;refine cU (dD (dC (cT (aT (vs:=[cI]) (by kernel_rfl) H fun kM h H=>?_))));refine aT (vs:=[kM]) (by kernel_rfl) H fun v87 h H=>?_;refine aT (vs:=[v87,vi 0]) (by kernel_rfl) H fun l5 h H=>?_;refine eo (v:=l5) (by kernel_rfl) (hO (vs:=[cI]) (gv:=l5) (by kernel_rfl) (by kernel_rfl) H fun l7 h H=>?_);refine hO (vs:=[l7]) (gv:=l5) (by kernel_rfl) (by kernel_rfl) H fun sW h H=>?_;refine hO (vs:=[cI]) (gv:=l5) (by kernel_rfl) (by kernel_rfl) H fun v91 h H=>?_;refine hO (vs:=[v91]) (gv:=l5) (by kernel_rfl) (by kernel_rfl) H fun ig h H=>?_;refine hO (vs:=[sW,ig]) (gv:=l5) (by kernel_rfl) (by kernel_rfl) H fun v93 h H=>?_;refine aT (vs:=[l5,.bool true,v93]) (by kernel_rfl) H fun jb h H=>?_;unfold RI at H;refine eo (v:=jb) (by kernel_rfl) (hO (vs:=[cI]) (gv:=jb) (by kernel_rfl) (by kernel_rfl) H fun kO h H=>?_);refine hO (vs:=[kO]) (gv:=jb) (by kernel_rfl) (by kernel_rfl) H fun zV h H=>?_;refine hO (vs:=[v2]) (gv:=jb) (by kernel_rfl) (by kernel_rfl) H fun mR h H=>?_;refine hO (vs:=[mR]) (gv:=jb) (by kernel_rfl) (by kernel_rfl) H fun EC h H=>?_;refine hO (vs:=[EC]) (gv:=jb) (by kernel_rfl) (by kernel_rfl) H fun ED h H=>?_;refine hO (vs:=[zV,ED]) (gv:=jb) (by kernel_rfl) (by kernel_rfl) H fun yb h H=>?_;refine aT (vs:=[jb,.bool true,yb]) (by kernel_rfl) H fun kN h H=>?_;unfold RH at H;refine eo (v:=kN) (by kernel_rfl) (hO (vs:=[cI]) (gv:=kN) (by kernel_rfl) (by kernel_rfl) H fun zU h H=>?_);refine hO (vs:=[zU]) (gv:=kN) (by kernel_rfl) (by kernel_rfl) H fun ya h H=>?_;refine zX (v:=v11) (gv:=kN) (by kernel_rfl) (by kernel_rfl) H fun z6 h H=>?_;refine Y8 (vs:=[ya,vi 0,z6]) (gv:=kN) (by kernel_rfl) (by kernel_rfl) H (fun _ _ H=>oR (P:=PP) (w0:=w0) nD.results Q (d79) (by kernel_rfl) H) fun v105 h H=>?_;refine hO (vs:=[v105]) (gv:=kN) (by kernel_rfl) (by kernel_rfl) H fun z7 h H=>?_;refine aT (vs:=[kN,.bool true,z7]) (by kernel_rfl) H fun v107 h H=>?_;unfold RG at H;refine cU (dD (mT (v:=v107) (by kernel_rfl) H (fun H=>?_) (fun H=>?_)))
                 · refine mS (rs:=d79) (α:=Unit) [(s4,v3),(s5,v4),(nz,cI)] (fun a=>[]) (fun σ=>()) (fun a q=>KB w0 E R cI v3 v4  q) (fun σ=>trivial) (fun a15 d108 σ h H=>?_) ?_
                   · refine dC (YZ (qe (vs:=[cI]) (by kernel_rfl) H fun v109 h H=>?_));refine qe (vs:=[v109]) (by kernel_rfl) H fun pG h H=>?_;refine qe (vs:=[v3,vi 2]) (by kernel_rfl) H fun Ez h H=>?_;refine Ew (v:=pG) (vs:=[v109]) rfl (by kernel_rfl) (by kernel_rfl) H fun H=>?_;refine Ew (v:=v109) (vs:=[cI]) rfl (by kernel_rfl) (by kernel_rfl) H fun H=>?_;refine qe (vs:=[v4,pG]) (by kernel_rfl) H fun Hm h H=>?_;refine Y0 (dD ?_);exact tc (P:=PP) (w0:=w0) nD.results Q (d108) (by kernel_rfl) (Eq.mp (by kernel_rfl) H)
                   · refine dC (cT (aT (vs:=[cI]) (by kernel_rfl) H fun BX h H=>?_));refine aT (vs:=[BX]) (by kernel_rfl) H fun zY h H=>?_;refine eo (v:=v11) (by kernel_rfl) (ta (vs:=[zY,vi 0,v11]) (by kernel_rfl) H (fun _ _ H=>oR (P:=PP) (w0:=w0) nD.results Q (d79) (by kernel_rfl) H) fun v117 h H=>?_);refine aT (vs:=[v117]) (by kernel_rfl) H fun zZ h H=>?_;refine cU (dD (mT (v:=zZ) (by kernel_rfl) H (fun H=>?_) (fun H=>?_)))
                     · refine cT (aT (vs:=[cI]) (by kernel_rfl) H fun rR h H=>?_);refine aT (vs:=[rR,vi 0]) (by kernel_rfl) H fun qf h H=>?_;refine cU ?_;exact Exists.intro (d79) (Eq.mp (by kernel_rfl) (And.intro (Eq.refl (gn (d79))) (And.intro (And.intro (Eq.refl (v3:Z)) (And.intro (Eq.refl (v4:Z)) (And.intro (Eq.refl (cI:Z)) trivial))) H)))
                     · refine nA ?_;exact Exists.intro (d79) (Eq.mp (by kernel_rfl) (And.intro (Eq.refl (gn (d79))) (And.intro (And.intro (Eq.refl (v3:Z)) (And.intro (Eq.refl (v4:Z)) (And.intro (Eq.refl (cI:Z)) trivial))) H)))
                 · refine nA (qR ?_);exact Exists.intro (d79) (Eq.mp (by kernel_rfl) (And.intro (Eq.refl (gn (d79))) (And.intro (And.intro (Eq.refl (v2:Z)) (And.intro (Eq.refl (v3:Z)) (And.intro (Eq.refl (v4:Z)) (And.intro (Eq.refl (v11:Z)) (And.intro (Eq.refl (aq:Z)) (And.intro (Eq.refl (eB:Z)) (And.intro (Eq.refl (iy:Z)) (And.intro (Eq.refl (a12:Z)) trivial)))))))) H)))
             · refine mT (v:=oQ) (by kernel_rfl) H (fun H=>?_) (fun H=>?_)
               · refine nA ?_;exact Exists.intro (d77) (Eq.mp (by kernel_rfl) (And.intro (Eq.refl (gn (d77))) (And.intro (And.intro (Eq.refl (v2:Z)) (And.intro (Eq.refl (v3:Z)) (And.intro (Eq.refl (v4:Z)) (And.intro (Eq.refl (v11:Z)) (And.intro (Eq.refl (aq:Z)) (And.intro (Eq.refl (eB:Z)) (And.intro (Eq.refl (iy:Z)) (And.intro (Eq.refl (a12:Z)) trivial)))))))) H)))
               · exact Exists.intro (d77) (Eq.mp (by kernel_rfl) (And.intro (Eq.refl (gn (d77))) (And.intro (And.intro (Eq.refl (v2:Z)) (And.intro (Eq.refl (v3:Z)) (And.intro (Eq.refl (v4:Z)) (And.intro (Eq.refl (aq:Z)) trivial)))) H)))
         · refine dC (cT (eo (v:=dc) (by kernel_rfl) (aT (vs:=[dc,vi 0]) (by kernel_rfl) H fun z8 h H=>?_)));refine cU (dD (mT (v:=z8) (by kernel_rfl) H (fun H=>?_) (fun H=>?_)))
           · refine dC (cT (eo (v:=dc) (by kernel_rfl) (aT (vs:=[v3,vi 2]) (by kernel_rfl) H fun tf h H=>?_)));refine aT (vs:=[v4,dc]) (by kernel_rfl) H fun nB h H=>?_;refine cU (dD ?_);exact tc (P:=PP) (w0:=w0) nD.results Q (d12) (by kernel_rfl) (Eq.mp (by kernel_rfl) H)
           · refine nA ?_;exact Exists.intro (d12) (Eq.mp (by kernel_rfl) (And.intro (Eq.refl (gn (d12))) (And.intro (And.intro (Eq.refl (v2:Z)) (And.intro (Eq.refl (v3:Z)) (And.intro (Eq.refl (v4:Z)) (And.intro (Eq.refl (v11:Z)) (And.intro (Eq.refl (aq:Z)) trivial))))) H)))
       · refine dC (cT (aT (vs:=[v2]) (by kernel_rfl) H fun qS h H=>?_));refine aT (vs:=[qS]) (by kernel_rfl) H fun v127 h H=>?_;refine eo (v:=v11) (by kernel_rfl) (aT (vs:=[v127,v11]) (by kernel_rfl) H fun BZ h H=>?_);refine aT (vs:=[BZ]) (by kernel_rfl) H fun uJ h H=>?_;refine aT (vs:=[uJ]) (by kernel_rfl) H fun v130 h H=>?_;refine ta (vs:=[v130]) (by kernel_rfl) H (fun _ _ H=>oR (P:=PP) (w0:=w0) nD.results Q (d7) (by kernel_rfl) H) fun v131 h H=>?_;refine eo (v:=v131) (by kernel_rfl) (aT (vs:=[v131]) (by kernel_rfl) H fun EF h H=>?_);refine aT (vs:=[v131]) (by kernel_rfl) H fun Hn h H=>?_;refine aT (vs:=[]) (by kernel_rfl) H fun nC h H=>?_;refine aT (vs:=[nC,EF]) (by kernel_rfl) H fun KD h H=>?_;refine eo (v:=Hn) (by kernel_rfl) (cU (dD (dC (cT (aT (vs:=[nC]) (by kernel_rfl) H fun EG h H=>?_)))));refine aT (vs:=[EG]) (by kernel_rfl) H fun tg h H=>?_;refine aT (vs:=[tg]) (by kernel_rfl) H fun v138 h H=>?_;refine cU (dD (mT (v:=v138) (by kernel_rfl) H (fun H=>?_) (fun H=>?_)))
         · refine dC (cT (eo (v:=v11) (by kernel_rfl) (aT (vs:=[v3,vi 2]) (by kernel_rfl) H fun v139 h H=>?_)));refine aT (vs:=[v4,v11]) (by kernel_rfl) H fun KE h H=>?_;refine cU (dD ?_);exact tc (P:=PP) (w0:=w0) nD.results Q (d7) (by kernel_rfl) (Eq.mp (by kernel_rfl) H)
         · refine nA ?_;exact Exists.intro (d7) (Eq.mp (by kernel_rfl) (And.intro (Eq.refl (gn (d7))) (And.intro (And.intro (Eq.refl (v1:Z)) (And.intro (Eq.refl (v2:Z)) (And.intro (Eq.refl (v3:Z)) (And.intro (Eq.refl (v4:Z)) (And.intro (Eq.refl (v11:Z)) trivial))))) H)))
     · refine dC (cT (aT (vs:=[v2]) (by kernel_rfl) H fun v143 h H=>?_));refine aT (vs:=[v143]) (by kernel_rfl) H fun KG h H=>?_;refine aT (vs:=[v1,v2]) (by kernel_rfl) H fun v145 h H=>?_;refine ta (vs:=[KG,v145]) (by kernel_rfl) H (fun _ _ H=>oR (P:=PP) (w0:=w0) nD.results Q (d6) (by kernel_rfl) H) fun v146 h H=>?_;refine eo (v:=v146) (by kernel_rfl) (cU (dD (dC (cT (eo (v:=v146) (by kernel_rfl) (aT (vs:=[v146,vi 0]) (by kernel_rfl) H fun KH h H=>?_))))));refine cU (dD (mT (v:=KH) (by kernel_rfl) H (fun H=>?_) (fun H=>?_)))
       · refine dC (cT (eo (v:=v146) (by kernel_rfl) (aT (vs:=[v3,vi 1]) (by kernel_rfl) H fun v148 h H=>?_)));refine aT (vs:=[v4,v146]) (by kernel_rfl) H fun Y1 h H=>?_;refine cU (dD ?_);exact tc (P:=PP) (w0:=w0) nD.results Q (d6) (by kernel_rfl) (Eq.mp (by kernel_rfl) H)
       · refine nA ?_;exact Exists.intro (d6) (Eq.mp (by kernel_rfl) (And.intro (Eq.refl (gn (d6))) (And.intro (And.intro (Eq.refl (v1:Z)) (And.intro (Eq.refl (v2:Z)) (And.intro (Eq.refl (v3:Z)) (And.intro (Eq.refl (v4:Z)) trivial)))) H)))
   · refine dC (cT (aT (vs:=[v2]) (by kernel_rfl) H fun v152 h H=>?_));refine ta (vs:=[v152]) (by kernel_rfl) H (fun _ _ H=>oR (P:=PP) (w0:=w0) nD.results Q (d5) (by kernel_rfl) H) fun vz h H=>?_;refine eo (v:=vz) (by kernel_rfl) (cU (dD (dC (cT (eo (v:=vz) (by kernel_rfl) (aT (vs:=[vz,vi 0]) (by kernel_rfl) H fun v154 h H=>?_))))));refine cU (dD (mT (v:=v154) (by kernel_rfl) H (fun H=>?_) (fun H=>?_)))
     · refine dC (cT (eo (v:=vz) (by kernel_rfl) (aT (vs:=[v3,vz]) (by kernel_rfl) H fun Y4 h H=>?_)));refine aT (vs:=[v4,vi 0]) (by kernel_rfl) H fun yc h H=>?_;refine cU (dD ?_);exact tc (P:=PP) (w0:=w0) nD.results Q (d5) (by kernel_rfl) (Eq.mp (by kernel_rfl) H)
     · refine nA ?_;exact Exists.intro (d5) (Eq.mp (by kernel_rfl) (And.intro (Eq.refl (gn (d5))) (And.intro (And.intro (Eq.refl (v1:Z)) (And.intro (Eq.refl (v2:Z)) (And.intro (Eq.refl (v3:Z)) (And.intro (Eq.refl (v4:Z)) trivial)))) H)))
 · refine dC (cT (aT (vs:=[v2]) (by kernel_rfl) H fun v159 h H=>?_));refine aT (vs:=[v159]) (by kernel_rfl) H fun v160 h H=>?_;refine ta (vs:=[v160]) (by kernel_rfl) H (fun _ _ H=>oR (P:=PP) (w0:=w0) nD.results Q (([]:List Nat)) (by kernel_rfl) H) fun RQ h H=>?_;refine aT (vs:=[RQ]) (by kernel_rfl) H fun v162 h H=>?_;refine eo (v:=v162) (by kernel_rfl) (hO (vs:=[v2]) (gv:=v162) (by kernel_rfl) (by kernel_rfl) H fun KI h H=>?_);refine hO (vs:=[KI]) (gv:=v162) (by kernel_rfl) (by kernel_rfl) H fun v164 h H=>?_;refine hO (vs:=[v164,(bs [])]) (gv:=v162) (by kernel_rfl) (by kernel_rfl) H fun KJ h H=>?_;refine zX (v:=KJ) (gv:=v162) (by kernel_rfl) (by kernel_rfl) H fun uK h H=>?_;refine hO (vs:=[v2]) (gv:=uK) (by kernel_rfl) (by kernel_rfl) H fun v167 h H=>?_;refine hO (vs:=[v167]) (gv:=uK) (by kernel_rfl) (by kernel_rfl) H fun v168 h H=>?_;refine Y8 (vs:=[v168]) (gv:=uK) (by kernel_rfl) (by kernel_rfl) H (fun _ _ H=>oR (P:=PP) (w0:=w0) nD.results Q (([]:List Nat)) (by kernel_rfl) H) fun Y5 h H=>?_;refine hO (vs:=[Y5]) (gv:=uK) (by kernel_rfl) (by kernel_rfl) H fun Y6 h H=>?_;refine hO (vs:=[uK,Y6,.bool false]) (gv:=v162) (by kernel_rfl) (by kernel_rfl) H fun v171 h H=>?_;refine aT (vs:=[v162,.bool true,v171]) (by kernel_rfl) H fun yd h H=>?_;unfold RP at H;refine cU (dD (mT (v:=yd) (by kernel_rfl) H (fun H=>?_) (fun H=>?_)))
   · refine dC (cT (aT (vs:=[v3,vi 4]) (by kernel_rfl) H fun v173 h H=>?_));refine aT (vs:=[v4,vi 0]) (by kernel_rfl) H fun atF h H=>?_;refine cU (dD ?_);exact tc (P:=PP) (w0:=w0) nD.results Q (([]:List Nat)) (by kernel_rfl) (Eq.mp (by kernel_rfl) H)
   · refine nA ?_;exact Exists.intro (([]:List Nat)) (Eq.mp (by kernel_rfl) (And.intro (Eq.refl (gn (([]:List Nat)))) (And.intro (And.intro (Eq.refl (v1:Z)) (And.intro (Eq.refl (v2:Z)) (And.intro (Eq.refl (v3:Z)) (And.intro (Eq.refl (v4:Z)) trivial)))) H)))
def aiw (w0:World) (E R:ZZF) (x0:Z):W:=pr (.box 119) [x0] fun v1=>pr (.bZ 4) [v1] fun v2=>pr (.fieldAddr 0) [v1] fun v3=>pr .aB [v3] fun v4=>pr (.fieldAddr 1) [v1] fun v5=>pr .aB [v5] fun v6=>pr (.build [(bs []),(bs []),vi 0,.bool false] [(0,1),(1,1)]) [v4,v6] fun v7=>pr (.Ho false [2,2,0,1]) [v2,v7] fun v8=>R v8
theorem atI {w0 h Q}(x0:Z)(H:aiw w0 (fun v h=>Q (.bC v) h) (fun v h=>Q (.ret v) h) x0 h):WF PP w0 Y9 [x0] h Q:=
 fm cq e77 [] (by kernel_rfl) (Eq.mp (by kernel_rfl) H)
def Za (w0:World) (E R:ZZF) (v2:Z):W:=pr (.build [vi 0,vi 0] []) [] fun v6=>pr (.store 2) [v2,v6] fun v7=>ld (.bZ 2) [v2] fun v8=>R (.tuple ⟨[vi 0,v8]⟩)
def Zb (w0:World) (E R:ZZF) (v4 v2 dP:Z):W:=br dP (pr (.bZ 2) [v4] fun fo=>pr (.store 2) [v2,fo] fun v49=>ld (.bZ 2) [v2] fun jz=>R (.tuple ⟨[vi 1,jz]⟩)) (Za w0 E R v2)
def Zc (w0:World) (E R:ZZF) (v1 v4 v2 eO:Z):W:=gd eO false (fun k=>pr (.fieldAddr 0) [v1] k) fun dM=>gd eO false (fun k=>pr .aB [dM] k) fun ja=>gd eO false (fun k=>pr (.fieldAddr 3) [v1] k) fun v37=>gd eO false (fun k=>pr .aB [v37] k) fun eT=>gd eO false (fun k=>pr (.cf 4) [ja,eT] k) fun bh=>gd eO false (fun k=>pr (.fieldAddr 2) [bh] k) fun v40=>gd eO false (fun k=>pr .aB [v40] k) fun aN=>gd eO false (fun k=>pr (.fieldAddr 4) [v1] k) fun gK=>gd eO false (fun k=>pr .aB [gK] k) fun gY=>gd eO false (fun k=>pr (.cf 1) [aN,gY] k) fun iF=>gd eO false (fun k=>pr .aB [iF] k) fun gZ=>gd eO false (fun k=>pr (.aL .lss) [gZ,vi 0] k) fun v46=>pr .pick [eO,.bool true,v46] fun dP=>Zb w0 E R v4 v2 dP
def Zd (w0:World) (E R:ZZF) (v1 v4 v2 ct:Z):W:=gd ct false (fun k=>pr (.fieldAddr 1) [v1] k) fun eN=>gd ct false (fun k=>pr .aB [eN] k) fun dE=>gd ct false (fun k=>pr (.fieldAddr 4) [v1] k) fun v28=>gd ct false (fun k=>pr .aB [v28] k) fun du=>gd ct false (fun k=>pr (.cf 4) [dE,du] k) fun v30=>gd ct false (fun k=>pr (.bZ 4) [v30] k) fun v31=>gd ct false (fun k=>cl PP w0 Y9 [v31] E k) fun iR=>gd ct false (fun k=>pr .ed [iR] k) fun jA=>pr .pick [ct,.bool true,jA] fun eO=>Zc w0 E R v1 v4 v2 eO
def Ze (w0:World) (E R:ZZF) (v1 v4 v2:Z):W:=pr (.fieldAddr 3) [v1] fun v9=>pr .aB [v9] fun v10=>pr (.fieldAddr 0) [v1] fun v11=>pr .aB [v11] fun v12=>pr .cb [v12] fun bW=>pr (.aL .sub) [bW,vi 1] fun cD=>cl PP w0 j5 [v10,vi 0,cD] E fun b9=>pr .ed [b9] fun dr=>gd dr false (fun k=>pr (.fieldAddr 4) [v1] k) fun dc=>gd dr false (fun k=>pr .aB [dc] k) fun aq=>gd dr false (fun k=>pr (.fieldAddr 1) [v1] k) fun dS=>gd dr false (fun k=>pr .aB [dS] k) fun v20=>gd dr false (fun k=>pr .cb [v20] k) fun v21=>gd dr false (fun k=>pr (.aL .sub) [v21,vi 1] k) fun gX=>gd dr false (fun k=>cl PP w0 j5 [aq,vi 0,gX] E k) fun fE=>gd dr false (fun k=>pr .ed [fE] k) fun v24=>pr .pick [dr,.bool true,v24] fun ct=>Zd w0 E R v1 v4 v2 ct
def Zf (w0:World) (E R:ZZF) (iJ:Z) (th:ZZF):W:=pr (.aL .add) [iJ,vi 1] fun dB=>th dB
def Zg (w0:World) (E R:ZZF) (bS iJ v1 v2:Z) (th:ZZF):W:=pr (.cf 7) [bS,iJ] fun iG=>pr (.bZ 7) [iG] fun v59=>pr (.alloc 25 [(bs []),(bs []),vi 0,vi 0,vi 0,bJ,bJ]) [] fun mQ=>pr (.store 7) [mQ,v59] fun cm=>pr (.bZ 5) [v1] fun nw=>pr (.bZ 7) [mQ] fun iv=>cl PP w0 RR [nw,iv] E fun lf=>pr (.extract 0) [lf] fun bX=>pr (.extract 1) [lf] fun jI=>pr (.aL .neq) [bX,vi 0] fun mu=>br mu (pr (.x8 [1,1]) [iJ,jI] fun mw=>pr (.store 2) [v2,mw] fun n5=>ld (.bZ 2) [v2] fun v70=>R (.tuple ⟨[bX,v70]⟩)) (Zf w0 E R iJ th)
def RS (w0:World) (E R:ZZF) (v53 bS v1 v2 v4:Z) (th:ZZF) (iJ:Z):W:=pr (.aL .lss) [iJ,v53] fun cG=>br cG (Zg w0 E R bS iJ v1 v2 th) (Ze w0 E R v1 v4 v2)
def Zh (w0:World) (E R:ZZF) (v1 v2 v4:Z):W:=pr (.fieldAddr 2) [v1] fun v51=>pr .aB [v51] fun bS=>pr .cb [bS] fun v53=>LP (α:=Z) (fun k a=>RS w0 E R v53 bS v1 v2 v4 k a) ((vi 0))
def Zi (w0:World) (E R:ZZF) (iK:Z) (ti:ZZF):W:=pr (.aL .add) [iK,vi 1] fun rK=>ti rK
def Zj (w0:World) (E R:ZZF) (v1 iK v2:Z) (ti:ZZF):W:=pr (.bZ 5) [v1] fun oQ=>cl PP w0 XU [oQ,iK] E fun my=>pr (.aL .neq) [my,vi 0] fun v80=>br v80 (pr (.x8 [1,1]) [(vi (-1)),iK] fun kL=>pr (.store 2) [v2,kL] fun rM=>ld (.bZ 2) [v2] fun rN=>R (.tuple ⟨[my,rN]⟩)) (Zi w0 E R iK ti)
def RT (w0:World) (E R:ZZF) (eB v1 v2 v4:Z) (ti:ZZF) (iK:Z):W:=pr (.aL .lss) [iK,eB] fun v76=>br v76 (Zj w0 E R v1 iK v2 ti) (Zh w0 E R v1 v2 v4)
def Zk (w0:World) (E R:ZZF) (v1 v2 v4:Z):W:=pr (.fieldAddr 0) [v1] fun ie=>pr .aB [ie] fun v72=>pr .cb [v72] fun eB=>LP (α:=Z) (fun k a=>RT w0 E R eB v1 v2 v4 k a) ((vi 0))
def Zl (w0:World) (E R:ZZF) (eH:Z) (l9:ZZF):W:=pr (.aL .add) [eH,vi 1] fun sW=>l9 sW
def Zm (w0:World) (E R:ZZF) (v93 eH v2:Z) (l9:ZZF):W:=pr (.fieldAddr 2) [v93] fun kO=>pr .aB [kO] fun zV=>cl PP w0 j5 [zV,vi 0,vi 16] E fun mR=>pr .ed [mR] fun EC=>br EC (pr (.x8 [1,1]) [(vi (-1)),eH] fun ED=>pr (.store 2) [v2,ED] fun yb=>ld (.bZ 2) [v2] fun kN=>R (.tuple ⟨[vi 1,kN]⟩)) (Zl w0 E R eH l9)
def Zn (w0:World) (E R:ZZF) (eH v2 v93:Z) (l9:ZZF) (pG:Z):W:=br pG (pr (.x8 [1,1]) [(vi (-1)),eH] fun Ez=>pr (.store 2) [v2,Ez] fun Hm=>ld (.bZ 2) [v2] fun EA=>R (.tuple ⟨[vi 4,EA]⟩)) (Zm w0 E R v93 eH v2 l9)
def Zo (w0:World) (E R:ZZF) (v85 eH v2:Z) (l9:ZZF):W:=pr (.cf 4) [v85,eH] fun v91=>pr (.bZ 4) [v91] fun ig=>pr (.alloc 119 [(bs []),(bs []),vi 0,.bool false]) [] fun v93=>pr (.store 4) [v93,ig] fun jb=>pr (.fieldAddr 0) [v93] fun zU=>pr .aB [zU] fun ya=>cl PP w0 BW [ya] E fun z6=>pr .ed [z6] fun v105=>gd v105 false (fun k=>pr (.fieldAddr 1) [v93] k) fun z7=>gd v105 false (fun k=>pr .aB [z7] k) fun v107=>gd v105 false (fun k=>cl PP w0 BW [v107] E k) fun KL=>gd v105 false (fun k=>pr .ed [KL] k) fun v109=>pr .pick [v105,.bool true,v109] fun pG=>Zn w0 E R eH v2 v93 l9 pG
def RU (w0:World) (E R:ZZF) (kM v85 v2 v1 v4:Z) (l9:ZZF) (eH:Z):W:=pr (.aL .lss) [eH,kM] fun l7=>br l7 (Zo w0 E R v85 eH v2 l9) (Zk w0 E R v1 v2 v4)
def Zp (w0:World) (E R:ZZF) (v1 v2 v4:Z):W:=pr (.fieldAddr 1) [v1] fun cI=>pr .aB [cI] fun v85=>pr .cb [v85] fun kM=>LP (α:=Z) (fun k a=>RU w0 E R kM v85 v2 v1 v4 k a) ((vi 0))
def Zq (w0:World) (E R:ZZF) (v4 v2 v1 tf:Z):W:=br tf (pr (.bZ 2) [v4] fun nB=>pr (.store 2) [v2,nB] fun v124=>ld (.bZ 2) [v2] fun EE=>R (.tuple ⟨[vi 1,EE]⟩)) (Zp w0 E R v1 v2 v4)
def Zr (w0:World) (E R:ZZF) (v1 v4 v2:Z):W:=pr (.fieldAddr 0) [v1] fun EB=>pr .aB [EB] fun BX=>pr .cb [BX] fun zY=>pr (.aL .eql) [zY,vi 0] fun v117=>gd v117 false (fun k=>pr (.fieldAddr 2) [v1] k) fun zZ=>gd v117 false (fun k=>pr .aB [zZ] k) fun rR=>gd v117 false (fun k=>pr .cb [rR] k) fun qf=>gd v117 false (fun k=>pr (.aL .eql) [qf,vi 0] k) fun z8=>pr .pick [v117,.bool true,z8] fun tf=>Zq w0 E R v4 v2 v1 tf
def Zs (w0:World) (E R:ZZF) (v4 v2 v1 v139:Z):W:=br v139 (pr (.bZ 2) [v4] fun KE=>pr (.store 2) [v2,KE] fun v141=>ld (.bZ 2) [v2] fun KF=>R (.tuple ⟨[vi 3,KF]⟩)) (Zr w0 E R v1 v4 v2)
def Zt (w0:World) (E R:ZZF) (v1 v4 v2 nC:Z):W:=gd nC false (fun k=>pr (.fieldAddr 2) [v1] k) fun KD=>gd nC false (fun k=>pr .aB [KD] k) fun EG=>gd nC false (fun k=>pr .cb [EG] k) fun tg=>gd nC false (fun k=>pr (.aL .gtr) [tg,vi 400] k) fun v138=>pr .pick [nC,.bool true,v138] fun v139=>Zs w0 E R v4 v2 v1 v139
def aix (w0:World) (E R:ZZF) (x0:Z):W:=pr (.box 51) [x0] fun v1=>pr (.alloc 60 [vi 0,vi 0]) [] fun v2=>pr (.build [vi 0,vi 0] [(0,1)]) [(vi (-1))] fun v3=>pr (.alloc 60 [vi 0,vi 0]) [] fun v4=>pr (.store 2) [v4,v3] fun v5=>pr (.fieldAddr 0) [v1] fun qS=>pr .aB [qS] fun v127=>pr .cb [v127] fun BZ=>pr (.aL .gtr) [BZ,vi 60] fun uJ=>gd uJ false (fun k=>pr (.fieldAddr 1) [v1] k) fun v130=>gd uJ false (fun k=>pr .aB [v130] k) fun v131=>gd uJ false (fun k=>pr .cb [v131] k) fun EF=>gd uJ false (fun k=>pr (.aL .gtr) [EF,vi 400] k) fun Hn=>pr .pick [uJ,.bool true,Hn] fun nC=>Zt w0 E R v1 v4 v2 nC
theorem atJ {w0 h Q}(x0:Z)(H:aix w0 (fun v h=>Q (.bC v) h) (fun v h=>Q (.ret v) h) x0 h):WF PP w0 Zu [x0] h Q:=
 fm cq e27 [[wQ],[Hi],[Zv]] (by kernel_rfl) (Eq.mp (by kernel_rfl) H)
def aiy (w0:World) (E R:ZZF) (x0 x1:Z):W:=pr .aB [x1] fun v1=>pr (.aL .sub) [v1,vi 1] fun v2=>cl PP w0 j5 [x0,vi 0,v2] E fun v3=>pr .ed [v3] fun v4=>R v4
theorem atK {w0 h Q}(x0 x1:Z)(H:aiy w0 (fun v h=>Q (.bC v) h) (fun v h=>Q (.ret v) h) x0 x1 h):WF PP w0 RV [x0,x1] h Q:=
 fm cq atM [] (by kernel_rfl) (Eq.mp (by kernel_rfl) H)
def Zw (w0:World) (E R:ZZF) (v1 x1 b9:Z):W:=gd b9 false (fun k=>pr (.fieldAddr 2) [v1] k) fun dr=>gd b9 false (fun k=>pr .aB [dr] k) fun dc=>gd b9 false (fun k=>pr .aB [x1] k) fun aq=>gd b9 false (fun k=>pr (.aL .sub) [aq,vi 1] k) fun dS=>gd b9 false (fun k=>cl PP w0 j5 [dc,vi 0,dS] E k) fun v20=>gd b9 false (fun k=>pr .ed [v20] k) fun v21=>pr .pick [b9,.bool true,v21] fun gX=>R gX
def Zx (w0:World) (E R:ZZF) (v1 x1 v10:Z):W:=gd v10 false (fun k=>pr (.fieldAddr 1) [v1] k) fun v11=>gd v10 false (fun k=>pr .aB [v11] k) fun v12=>gd v10 false (fun k=>pr .aB [x1] k) fun bW=>gd v10 false (fun k=>pr (.aL .gtr) [v12,bW] k) fun cD=>pr .pick [v10,.bool true,cD] fun b9=>Zw w0 E R v1 x1 b9
def aiz (w0:World) (E R:ZZF) (x0 x1:Z):W:=pr (.box 79) [x0] fun v1=>pr (.fieldAddr 0) [v1] fun v2=>pr .aB [v2] fun v3=>pr (.aL .lss) [v3,vi 0] fun v4=>gd v4 false (fun k=>pr (.fieldAddr 0) [v1] k) fun v5=>gd v4 false (fun k=>pr .aB [v5] k) fun v6=>gd v4 false (fun k=>pr (.fieldAddr 1) [v1] k) fun v7=>gd v4 false (fun k=>pr .aB [v7] k) fun v8=>gd v4 false (fun k=>pr (.aL .geq) [v6,v8] k) fun v9=>pr .pick [v4,.bool true,v9] fun v10=>Zx w0 E R v1 x1 v10
theorem atN {w0 h Q}(x0 x1:Z)(H:aiz w0 (fun v h=>Q (.bC v) h) (fun v h=>Q (.ret v) h) x0 x1 h):WF PP w0 RW [x0,x1] h Q:=
 fm cq atO [] (by kernel_rfl) (Eq.mp (by kernel_rfl) H)
def aiA (w0:World) (E R:ZZF) (x0 x1:Z):W:=cl PP w0 Ri [x0,x1] E fun v1=>pr (.aL .geq) [v1,vi 0] fun v2=>R v2
theorem atP {w0 h Q}(x0 x1:Z)(H:aiA w0 (fun v h=>Q (.bC v) h) (fun v h=>Q (.ret v) h) x0 x1 h):WF PP w0 Zy [x0,x1] h Q:=
 fm cq atQ [] (by kernel_rfl) (Eq.mp (by kernel_rfl) H)
def Zz (w0:World) (E R:ZZF) (v1 v5:Z):W:=pr (.fieldAddr 6) [v1] fun v7=>pr .aB [v7] fun v8=>pr (.xZ (.func RW) 0) [v5] fun v9=>cl PP w0 Zy [v8,v9] E fun v10=>pr .ed [v10] fun v11=>R v11
def ZA (w0:World) (E R:ZZF) (eC:Z) (oS:ZZF):W:=pr (.aL .add) [eC,vi 1] fun aq=>oS aq
def ZB (w0:World) (E R:ZZF) (eC:Z) (oS:ZZF) (dM:Z):W:=br dM (R (.bool false)) (ZA w0 E R eC oS)
def ZC (w0:World) (E R:ZZF) (bW eC v5:Z) (oS:ZZF):W:=pr (.cf 4) [bW,eC] fun dS=>pr (.bZ 4) [dS] fun v20=>pr (.alloc 67 [vi 0,vi 0,vi 0,vi 0]) [] fun v21=>pr (.store 4) [v21,v20] fun gX=>pr (.fieldAddr 0) [v21] fun fE=>pr .aB [fE] fun v24=>cl PP w0 x7 [v24] E fun ct=>pr (.extract 0) [ct] fun eN=>pr (.extract 1) [ct] fun dE=>pr (.alloc 138 [(bs []),vi 0,vi 0,vi 0,vi 0,vi 0,vi 0,.bool false,.bool false]) [] fun v28=>pr (.store 9) [v28,eN] fun du=>pr .ed [dE] fun v30=>gd v30 false (fun k=>pr (.bZ 4) [v21] k) fun v31=>gd v30 false (fun k=>cl PP w0 Rf [v31] E k) fun iR=>gd v30 false (fun k=>pr (.xZ (.func RV) 0) [v5] k) fun jA=>gd v30 false (fun k=>cl PP w0 QW [iR,jA] E k) fun eO=>pr .pick [v30,.bool true,eO] fun dM=>ZB w0 E R eC oS dM
def RX (w0:World) (E R:ZZF) (cD bW v5 v1:Z) (oS:ZZF) (eC:Z):W:=pr (.aL .lss) [eC,cD] fun dc=>br dc (ZC w0 E R bW eC v5 oS) (Zz w0 E R v1 v5)
def ZD (w0:World) (E R:ZZF) (v1 v5:Z):W:=pr (.fieldAddr 5) [v1] fun v12=>pr .aB [v12] fun bW=>pr .cb [bW] fun cD=>LP (α:=Z) (fun k a=>RX w0 E R cD bW v5 v1 k a) ((vi 0))
def ZE (w0:World) (E R:ZZF) (v1 v5 v53:Z):W:=br v53 (R (.bool false)) (ZD w0 E R v1 v5)
def ZF (w0:World) (E R:ZZF) (v1 v5 fo:Z):W:=gd fo false (fun k=>pr (.fieldAddr 4) [v1] k) fun v49=>gd fo false (fun k=>pr .aB [v49] k) fun jz=>gd fo false (fun k=>cl PP w0 j5 [jz,vi 0,vi 200] E k) fun v51=>gd fo false (fun k=>pr .ed [v51] k) fun bS=>pr .pick [fo,.bool true,bS] fun v53=>ZE w0 E R v1 v5 v53
def ZG (w0:World) (E R:ZZF) (v1 v5 gY:Z):W:=gd gY false (fun k=>pr (.fieldAddr 3) [v1] k) fun iF=>gd gY false (fun k=>pr .aB [iF] k) fun gZ=>gd gY false (fun k=>cl PP w0 j5 [gZ,vi 0,vi 200] E k) fun v46=>gd gY false (fun k=>pr .ed [v46] k) fun dP=>pr .pick [gY,.bool true,dP] fun fo=>ZF w0 E R v1 v5 fo
def aiB (w0:World) (E R:ZZF) (x0:Z):W:=pr (.box 25) [x0] fun v1=>pr (.fieldAddr 5) [v1] fun v2=>pr .aB [v2] fun v3=>pr .cb [v3] fun v4=>pr (.alloc 3 [vi 0]) [] fun v5=>pr (.store 1) [v5,v4] fun v6=>pr .aB [v5] fun ja=>cl PP w0 j5 [ja,vi 1,vi 600] E fun v37=>pr .ed [v37] fun eT=>gd eT false (fun k=>pr (.fieldAddr 6) [v1] k) fun bh=>gd eT false (fun k=>pr .aB [bh] k) fun v40=>gd eT false (fun k=>pr .cb [v40] k) fun aN=>gd eT false (fun k=>pr (.aL .gtr) [aN,vi 40] k) fun gK=>pr .pick [eT,.bool true,gK] fun gY=>ZG w0 E R v1 v5 gY
theorem atS {w0 h Q}(x0:Z)(H:aiB w0 (fun v h=>Q (.bC v) h) (fun v h=>Q (.ret v) h) x0 h):WF PP w0 Hp [x0] h Q:=
 fm cq e53 [[wR]] (by kernel_rfl) (Eq.mp (by kernel_rfl) H)
def ZH (w0:World) (E R:ZZF) (v4:Z):W:=R (.tuple ⟨[v4,vi 0]⟩)
def ZI (w0:World) (E R:ZZF) (v1:Z):W:=pr (.bZ 7) [v1] fun v2=>cl PP w0 Rq [v2] E fun v3=>pr (.extract 0) [v3] fun v4=>pr (.extract 1) [v3] fun v5=>pr .ed [v5] fun v6=>br v6 (R (.tuple ⟨[bJ,vi 12]⟩)) (ZH w0 E R v4)
def aiC (w0:World) (E R:ZZF) (x0:Z):W:=pr (.box 25) [x0] fun v1=>pr (.bZ 7) [v1] fun v7=>cl PP w0 Hp [v7] E fun v8=>pr .ed [v8] fun v9=>br v9 (R (.tuple ⟨[bJ,vi 1]⟩)) (ZI w0 E R v1)
theorem atT {w0 h Q}(x0:Z)(H:aiC w0 (fun v h=>Q (.bC v) h) (fun v h=>Q (.ret v) h) x0 h):WF PP w0 RY [x0] h Q:=
 fm cq e14 [] (by kernel_rfl) (Eq.mp (by kernel_rfl) H)
def aiD (w0:World) (E R:ZZF) (x0:Z):W:=pr (.buildSlice 3 0 [] []) [] fun v1=>pr (.append 3 1 [vi 0]) [v1,x0] fun v2=>R v2
def aiE (w0:World) (E R:ZZF) (x0:Z):W:=pr (.rT 1 false) [x0,bJ] fun v3=>br v3 (R bJ) (aiD w0 E R x0)
theorem atU {w0 h Q}(x0:Z)(H:aiE w0 (fun v h=>Q (.bC v) h) (fun v h=>Q (.ret v) h) x0 h):WF PP w0 ZJ [x0] h Q:=
 fm cq e65 [] (by kernel_rfl) (Eq.mp (by kernel_rfl) H)
def ZK (w0:World) (E R:ZZF) (v4 v2 cJ:Z):W:=pr (.bZ 7) [v4] fun b9=>pr (.store 7) [v2,b9] fun dr=>ld (.bZ 7) [v2] fun dc=>R (.tuple ⟨[dc,cJ,vi 0]⟩)
def RZ (w0:World) (E R:ZZF) (eI:Z) (rU:ZZF):W:=pr (.aL .add) [eI,vi 1] fun v24=>rU v24
def ZL (w0:World) (E R:ZZF) (dS eI cD cJ v4:Z) (rU:ZZF):W:=pr (.cf 3) [dS,eI] fun ct=>pr (.bZ 3) [ct] fun eN=>pr (.alloc 79 [vi 0,vi 0,vi 0]) [] fun dE=>pr (.store 3) [dE,eN] fun v28=>pr (.fieldAddr 0) [dE] fun du=>pr .aB [du] fun v30=>pr (.cf 1) [cD,v30] fun v31=>pr .aB [v31] fun iR=>pr (.fieldAddr 1) [dE] fun jA=>pr .aB [jA] fun eO=>pr (.cf 1) [cD,eO] fun dM=>pr .aB [dM] fun ja=>pr (.fieldAddr 2) [dE] fun v37=>pr .aB [v37] fun eT=>pr (.cf 1) [cJ,eT] fun bh=>pr .aB [bh] fun v40=>pr (.x8 [1,1,1]) [iR,ja,v40] fun aN=>pr (.alloc 79 [vi 0,vi 0,vi 0]) [] fun gK=>pr (.store 3) [gK,aN] fun gY=>pr (.fieldAddr 0) [gK] fun iF=>pr .aB [iF] fun gZ=>pr (.fieldAddr 1) [gK] fun v46=>pr .aB [v46] fun dP=>pr (.aL .lss) [gZ,dP] fun fo=>br fo (pr (.fieldAddr 6) [v4] fun v49=>pr .aB [v49] fun jz=>pr (.bZ 3) [gK] fun v51=>pr (.buildSlice 79 1 [vi 0,vi 0,vi 0] [(0,3)]) [v51] fun bS=>pr (.append 79 3 [vi 0,vi 0,vi 0]) [jz,bS] fun v53=>pr (.fieldAddr 6) [v4] fun lb=>pr (.store 1) [lb,v53] fun cr=>RZ w0 E R eI rU) (RZ w0 E R eI rU)
def R0 (w0:World) (E R:ZZF) (v20 dS cD cJ v4 v2:Z) (rU:ZZF) (eI:Z):W:=pr (.aL .lss) [eI,v20] fun fE=>br fE (ZL w0 E R dS eI cD cJ v4 rU) (ZK w0 E R v4 v2 cJ)
def ZM (w0:World) (E R:ZZF) (cJ fX v1 v4 v2:Z):W:=cl PP w0 ZJ [cJ] E fun v12=>pr (.buildSlice 3 1 [vi 0] [(0,1)]) [fX] fun bW=>pr (.append 3 1 [vi 0]) [v12,bW] fun cD=>pr (.fieldAddr 6) [v1] fun aq=>pr .aB [aq] fun dS=>pr .cb [dS] fun v20=>LP (α:=Z) (fun k a=>R0 w0 E R v20 dS cD cJ v4 v2 k a) ((vi 0))
def R3 (w0:World) (E R:ZZF) (cj:Z) (fF:ZZF):W:=pr (.aL .add) [cj,vi 1] fun nw=>fF nw
def KM (w0:World) (E R:ZZF) (v4 bX cj:Z) (fF:ZZF):W:=pr (.fieldAddr 5) [v4] fun mu=>pr .aB [mu] fun mw=>pr (.bZ 4) [bX] fun n5=>pr (.buildSlice 67 1 [vi 0,vi 0,vi 0,vi 0] [(0,4)]) [n5] fun v70=>pr (.append 67 4 [vi 0,vi 0,vi 0,vi 0]) [mw,v70] fun ie=>pr (.fieldAddr 5) [v4] fun v72=>pr (.store 1) [v72,ie] fun eB=>R3 w0 E R cj fF
def R4 (w0:World) (E R:ZZF) (bX cJ v4 cj:Z) (fF:ZZF) (Hq:Z):W:=br Hq (pr (.fieldAddr 2) [bX] fun cI=>pr .aB [cI] fun v85=>pr (.cf 1) [cJ,v85] fun kM=>pr .aB [kM] fun v87=>pr (.fieldAddr 2) [bX] fun l5=>pr (.store 1) [l5,v87] fun l7=>KM w0 E R v4 bX cj fF) (KM w0 E R v4 bX cj fF)
def ZN (w0:World) (E R:ZZF) (bX cJ v4 cj:Z) (fF:ZZF):W:=pr (.fieldAddr 0) [bX] fun iy=>pr .aB [iy] fun v75=>pr (.aL .eql) [v75,vi 24] fun v76=>br v76 (pr (.fieldAddr 1) [bX] fun rK=>pr .aB [rK] fun oQ=>pr (.cf 1) [cJ,oQ] fun my=>pr .aB [my] fun v80=>pr (.fieldAddr 1) [bX] fun kL=>pr (.store 1) [kL,v80] fun rM=>KM w0 E R v4 bX cj fF) (pr (.aL .eql) [v75,vi 25] fun sW=>br sW (R4 w0 E R bX cJ v4 cj fF sW) (pr (.aL .eql) [v75,vi 32] fun v91=>R4 w0 E R bX cJ v4 cj fF v91))
def ZO (w0:World) (E R:ZZF) (dB cj x1:Z) (fF:ZZF) (cJ v4:Z):W:=pr (.cf 4) [dB,cj] fun iv=>pr (.bZ 4) [iv] fun lf=>pr (.alloc 67 [vi 0,vi 0,vi 0,vi 0]) [] fun bX=>pr (.store 4) [bX,lf] fun jI=>pr (.cf 1) [x1,cj] fun ig=>pr .aB [ig] fun v93=>pr .ed [v93] fun jb=>br jb (R3 w0 E R cj fF) (ZN w0 E R bX cJ v4 cj fF)
def R5 (w0:World) (E R:ZZF) (iG dB x1 cJ v4 fX v1 v2:Z) (fF:ZZF) (cj:Z):W:=pr (.aL .lss) [cj,iG] fun cm=>br cm (ZO w0 E R dB cj x1 fF cJ v4) (ZM w0 E R cJ fX v1 v4 v2)
def ZP (w0:World) (E R:ZZF) (v1 x1 v4 v2 cJ fX:Z):W:=pr (.fieldAddr 5) [v1] fun cG=>pr .aB [cG] fun dB=>pr .cb [dB] fun iG=>LP (α:=Z) (fun k a=>R5 w0 E R iG dB x1 cJ v4 fX v1 v2 k a) ((vi 0))
def R6 (w0:World) (E R:ZZF) (dv:Z) (rV:Z→Z→ZZF) (Hr Hs:Z):W:=pr (.aL .add) [dv,vi 1] fun ya=>rV Hr Hs ya
def ZQ (w0:World) (E R:ZZF) (x1 dv iL lN:Z) (rV:Z→Z→ZZF):W:=pr (.cf 1) [x1,dv] fun z6=>pr .aB [z6] fun v105=>pr (.buildSlice 3 1 [vi 0] [(0,1)]) [iL] fun z7=>pr (.append 3 1 [vi 0]) [lN,z7] fun v107=>br v105 (pr (.aL .add) [iL,vi 1] fun KL=>R6 w0 E R dv rV v107 KL) (R6 w0 E R dv rV v107 iL)
def R7 (w0:World) (E R:ZZF) (kO x1 v1 v4 v2:Z) (rV:Z→Z→ZZF) (lN iL dv:Z):W:=pr (.aL .lss) [dv,kO] fun yb=>br yb (ZQ w0 E R x1 dv iL lN rV) (ZP w0 E R v1 x1 v4 v2 lN iL)
def ZR (w0:World) (E R:ZZF) (v1 x1 v2:Z):W:=pr (.bZ 7) [v1] fun v3=>pr (.alloc 25 [(bs []),(bs []),vi 0,vi 0,vi 0,bJ,bJ]) [] fun v4=>pr (.store 7) [v4,v3] fun v5=>pr (.fieldAddr 5) [v4] fun v6=>pr (.store 1) [v6,bJ] fun v7=>pr (.fieldAddr 6) [v4] fun v8=>pr (.store 1) [v8,bJ] fun v9=>pr .cb [x1] fun kO=>LP (α:=Z×Z×Z) (fun k a=>R7 w0 E R kO x1 v1 v4 v2 (fun b0 b1 b2=>k (b0,b1,b2)) a.1 a.2.1 a.2.2) (bJ,vi 0,(vi 0))
def ZS (w0:World) (E R:ZZF) (x1 v2 v1:Z):W:=pr .cb [x1] fun v109=>pr (.aL .sub) [v109,vi 1] fun pG=>pr (.cf 1) [x1,pG] fun Ez=>pr .aB [Ez] fun Hm=>pr .ed [Hm] fun EA=>br EA (pr (.build [(bs []),(bs []),vi 0,vi 0,vi 0,bJ,bJ] []) [] fun EB=>pr (.store 7) [v2,EB] fun BX=>ld (.bZ 7) [v2] fun zY=>R (.tuple ⟨[zY,bJ,vi 2]⟩)) (ZR w0 E R v1 x1 v2)
def ZT (w0:World) (E R:ZZF) (v2 x1 v1 qS:Z):W:=br qS (pr (.build [(bs []),(bs []),vi 0,vi 0,vi 0,bJ,bJ] []) [] fun v127=>pr (.store 7) [v2,v127] fun BZ=>ld (.bZ 7) [v2] fun uJ=>R (.tuple ⟨[uJ,bJ,vi 1]⟩)) (ZS w0 E R x1 v2 v1)
def aiF (w0:World) (E R:ZZF) (x0 x1:Z):W:=pr (.box 25) [x0] fun v1=>pr (.alloc 25 [(bs []),(bs []),vi 0,vi 0,vi 0,bJ,bJ]) [] fun v2=>pr (.bZ 7) [v1] fun v117=>cl PP w0 Hp [v117] E fun zZ=>pr .ed [zZ] fun rR=>gd rR false (fun k=>k x1) fun qf=>gd rR false (fun k=>pr .cb [qf] k) fun z8=>gd rR false (fun k=>pr (.fieldAddr 5) [v1] k) fun tf=>gd rR false (fun k=>pr .aB [tf] k) fun nB=>gd rR false (fun k=>pr .cb [nB] k) fun v124=>gd rR false (fun k=>pr (.aL .neq) [z8,v124] k) fun EE=>pr .pick [rR,.bool true,EE] fun qS=>ZT w0 E R v2 x1 v1 qS
theorem atV {w0 h Q}(x0 x1:Z)(H:aiF w0 (fun v h=>Q (.bC v) h) (fun v h=>Q (.ret v) h) x0 x1 h):WF PP w0 R8 [x0,x1] h Q:=
 fm cq e20 [[s8,s9,wS],[EI],[ZU]] (by kernel_rfl) (Eq.mp (by kernel_rfl) H)
def ZV (w0:World) (E R:ZZF)  :W:=R (.bool true)
def ZW (w0:World) (E R:ZZF) (y2:Z) (k1:ZZF):W:=pr (.aL .add) [y2,vi 1] fun v3=>k1 v3
def ZX (w0:World) (E R:ZZF) (x0 y2 x1:Z) (k1:ZZF):W:=pr (.cf 1) [x0,y2] fun v4=>pr .aB [v4] fun v5=>pr (.cf 1) [x1,y2] fun v6=>pr .aB [v6] fun v7=>pr (.aL .neq) [v5,v7] fun v8=>br v8 (R (.bool false)) (ZW w0 E R y2 k1)
def R9 (w0:World) (E R:ZZF) (x0 x1:Z) (k1:ZZF) (y2:Z):W:=pr .cb [x0] fun v9=>pr (.aL .lss) [y2,v9] fun v10=>br v10 (ZX w0 E R x0 y2 x1 k1) (ZV w0 E R)
def ZY (w0:World) (E R:ZZF) (x0 x1:Z):W:=LP (α:=Z) (fun k a=>R9 w0 E R x0 x1 k a) ((vi 0))
def aiG (w0:World) (E R:ZZF) (x0 x1:Z):W:=pr .cb [x0] fun v11=>pr .cb [x1] fun v12=>pr (.aL .neq) [v11,v12] fun bW=>br bW (R (.bool false)) (ZY w0 E R x0 x1)
theorem atW {w0 h Q}(x0 x1:Z)(H:aiG w0 (fun v h=>Q (.bC v) h) (fun v h=>Q (.ret v) h) x0 x1 h):WF PP w0 ZZ [x0,x1] h Q:=
 fm cq e16 [[s5]] (by kernel_rfl) (Eq.mp (by kernel_rfl) H)
def Z0 (w0:World) (E R:ZZF) (y9:Z):W:=R y9
def Sa (w0:World) (E R:ZZF) (ch:Z) (gL:Z→ZZF) (eC:Z):W:=pr (.aL .add) [ch,vi 1] fun dc=>gL eC dc
def Z1 (w0:World) (E R:ZZF) (v1 aq dR ch:Z) (gL:Z→ZZF) (v28:Z):W:=br v28 (pr (.bZ 4) [v1] fun du=>cl PP w0 Et [du] E fun v30=>pr (.aL .sub) [aq,vi 1] fun v31=>pr (.x9 3) [v30,v31] fun iR=>pr (.buildSlice 3 1 [vi 0] [(0,1)]) [iR] fun jA=>pr (.append 3 1 [vi 0]) [dR,jA] fun eO=>Sa w0 E R ch gL eO) (Sa w0 E R ch gL dR)
def Z2 (w0:World) (E R:ZZF) (v1 aq dR ch:Z) (gL:Z→ZZF) (v21:Z):W:=gd v21 true (fun k=>pr (.bZ 4) [v1] k) fun gX=>gd v21 true (fun k=>cl PP w0 Et [gX] E k) fun fE=>gd v21 true (fun k=>k aq) fun v24=>gd v21 true (fun k=>pr (.aL .sub) [v24,vi 1] k) fun ct=>gd v21 true (fun k=>pr (.x9 3) [fE,ct] k) fun eN=>gd v21 true (fun k=>pr (.aL .neq) [eN,(vi (-1))] k) fun dE=>pr .pick [v21,dE,.bool false] fun v28=>Z1 w0 E R v1 aq dR ch gL v28
def Z3 (w0:World) (E R:ZZF) (v11 ch v6 v1 dR:Z) (gL:Z→ZZF):W:=pr (.x9 2) [v11,ch] fun aq=>gd v6 true (fun k=>k aq) fun dS=>gd v6 true (fun k=>pr (.aL .gtr) [dS,vi 0] k) fun v20=>pr .pick [v6,v20,.bool false] fun v21=>Z2 w0 E R v1 aq dR ch gL v21
def Sb (w0:World) (E R:ZZF) (v11 v6 v1:Z) (gL:Z→ZZF) (dR ch:Z):W:=pr (.aL .lss) [ch,vi 2] fun b9=>br b9 (Z3 w0 E R v11 ch v6 v1 dR gL) (Z0 w0 E R  dR)
def aiH (w0:World) (E R:ZZF) (x0:Z):W:=pr (.box 67) [x0] fun v1=>pr (.fieldAddr 0) [v1] fun v2=>pr .aB [v2] fun v3=>cl PP w0 x7 [v3] E fun v4=>pr (.extract 0) [v4] fun v5=>pr (.extract 1) [v4] fun v6=>pr (.alloc 138 [(bs []),vi 0,vi 0,vi 0,vi 0,vi 0,vi 0,.bool false,.bool false]) [] fun v7=>pr (.store 9) [v7,v5] fun v8=>pr (.fieldAddr 5) [v7] fun v10=>pr (.bZ 2) [v10] fun v11=>LP (α:=Z×Z) (fun k a=>Sb w0 E R v11 v6 v1 (fun b0 b1=>k (b0,b1)) a.1 a.2) (bJ,(vi 0))
theorem atX {w0 h Q}(x0:Z)(H:aiH w0 (fun v h=>Q (.bC v) h) (fun v h=>Q (.ret v) h) x0 h):WF PP w0 Z4 [x0] h Q:=
 fm cq e30 [[s5,uF]] (by kernel_rfl) (Eq.mp (by kernel_rfl) H)
def atY (w0:World) (E R:ZZF) (y1:Z):W:=cl PP w0 aiI [y1] E fun v2=>R y1
def atZ (w0:World) (E R:ZZF) (v3 y5:Z) (k4:ZZF):W:=pr (.x .entry) [v3] fun v8=>pr (.extract 0) [v8] fun v9=>pr (.buildSlice 3 1 [vi 0] [(0,1)]) [v9] fun v10=>pr (.append 3 1 [vi 0]) [y5,v10] fun v11=>k4 v11
def at0 (w0:World) (E R:ZZF) (v3:Z) (k4:ZZF) (y5:Z):W:=pr (.x .EJ) [v3] fun v6=>pr (.extract 0) [v6] fun v7=>br v7 (atZ w0 E R v3 y5 k4) (atY w0 E R  y5)
def aiJ (w0:World) (E R:ZZF) (x0:Z):W:=pr (.x .KN) [x0] fun v3=>LP (α:=Z) (fun k a=>at0 w0 E R v3 k a) (bJ)
theorem at1 {w0 h Q}(x0:Z)(H:aiJ w0 (fun v h=>Q (.bC v) h) (fun v h=>Q (.ret v) h) x0 h):WF PP w0 Sc [x0] h Q:=
 fm cq e62 [[s3]] (by kernel_rfl) (Eq.mp (by kernel_rfl) H)
def Z5 (w0:World) (E R:ZZF) (v1 v7:Z):W:=pr (.bZ 4) [v1] fun v9=>pr (.fieldAddr 4) [v7] fun v10=>pr .aB [v10] fun v11=>pr (.aL .sub) [v11,vi 1] fun v12=>cl PP w0 Et [v9] E fun bW=>ck (.aL .sub) [v11,vi 1] v12 (ck .aB [v10] v11 (ck (.fieldAddr 4) [v7] v10 (pr (.x9 3) [bW,v12] fun cD=>R cD)))
def aiK (w0:World) (E R:ZZF) (x0:Z):W:=pr (.box 67) [x0] fun v1=>pr (.fieldAddr 0) [v1] fun v2=>pr .aB [v2] fun v3=>cl PP w0 x7 [v3] E fun v4=>pr (.extract 0) [v4] fun v5=>pr (.extract 1) [v4] fun v6=>pr (.alloc 138 [(bs []),vi 0,vi 0,vi 0,vi 0,vi 0,vi 0,.bool false,.bool false]) [] fun v7=>pr (.store 9) [v7,v5] fun v8=>pr (.fieldAddr 4) [v7] fun b9=>pr .aB [b9] fun dr=>pr (.aL .eql) [dr,vi 0] fun dc=>br dc (R (vi (-1))) (Z5 w0 E R v1 v7)
theorem at2 {w0 h Q}(x0:Z)(H:aiK w0 (fun v h=>Q (.bC v) h) (fun v h=>Q (.ret v) h) x0 h):WF PP w0 Z6 [x0] h Q:=
 fm cq e38 [] (by kernel_rfl) (Eq.mp (by kernel_rfl) H)
def Z7 (w0:World) (E R:ZZF) (v5:Z) (d8:List Nat):W:=pr .aB [v5] fun v9=>iH (d8) (R v9)
def Z8 (w0:World) (E R:ZZF) (EK:Z) (KO:Z→List Nat→W) (d22:List Nat):W:=pr (.aL .add) [EK,vi 1] fun fE=>KO fE (d22)
def Z9 (w0:World) (E R:ZZF) (b9 EK v5:Z) (KO:Z→List Nat→W) (d21:List Nat):W:=pr (.cf 1) [b9,EK] fun v24=>pr .aB [v24] fun ct=>pr .aB [v5] fun eN=>pr (.ye 0) [eN,ct,.bool true] fun dE=>Z8 w0 E R EK KO (d21)
def EL (w0:World) (E R:ZZF) (dr b9 v5:Z) (KO:Z→List Nat→W) (EK:Z) (d19:List Nat):W:=pr (.aL .lss) [EK,dr] fun v20=>br v20 (Z9 w0 E R b9 EK v5 KO (d19)) (Z7 w0 E R v5 (d19))
def aaa (w0:World) (E R:ZZF) (v1 v2 v5:Z) (d7:List Nat):W:=pr (.fieldAddr 5) [v1] fun v10=>pr .aB [v10] fun v11=>pr .aB [v2] fun v12=>pr (.cf 4) [v11,v12] fun bW=>pr (.bZ 4) [bW] fun cD=>cl PP w0 Z4 [cD] (cE (d7) E) fun b9=>pr .cb [b9] fun dr=>LP (α:=(Z)×List Nat) (fun k a=>EL w0 E R dr b9 v5 (fun b0 q=>k ((b0),q)) a.1 a.2) (((vi 0)),d7)
def Sd (w0:World) (E R:ZZF) (aN oT v1 v2 v5:Z) (Se:W):W:=pr (.x .entry) [aN] fun gZ=>pr (.extract 0) [gZ] fun v46=>pr (.aL .eql) [oT,vi 2] fun dP=>gd dP false (fun k=>k v46) fun fo=>gd dP false (fun k=>pr (.fieldAddr 5) [v1] k) fun v49=>gd dP false (fun k=>pr .aB [v49] k) fun jz=>gd dP false (fun k=>pr .aB [v2] k) fun v51=>gd dP false (fun k=>pr (.cf 4) [jz,v51] k) fun bS=>gd dP false (fun k=>pr (.bZ 4) [bS] k) fun v53=>gd dP false (fun k=>cl PP w0 Z6 [v53] qd k) fun lb=>gd dP false (fun k=>pr (.aL .neq) [fo,lb] k) fun cr=>pr .pick [dP,.bool true,cr] fun cG=>br cG (pr .aB [v5] fun dB=>pr (.ye 0) [dB,v46,.bool true] fun iG=>Se) (Se)
def aiL (w0:World) (E R:ZZF) (aN oT v1 v2 v5:Z) (Ab:LO) (Ac:Nat) (Se:W):W:=pr (.x .EJ) [aN] fun gY=>pr (.extract 0) [gY] fun iF=>br iF (Sd w0 E R aN oT v1 v2 v5 Se) (lg Ab Ac .ready none true R)
def aab (w0:World) (E R:ZZF) (v3 v1 v2 v5:Z) (Ab:LO) (Ac:Nat) (EM oT:Z):W:=wO Ab Ac (rQ Ab Ac (pr .aB [v3] fun eT=>pr (.cf 1) [eT,EM] fun bh=>pr .aB [bh] fun v40=>pr (.x .KN) [v40] fun aN=>LP (α:=Unit) (fun k a=>aiL w0 E R aN oT v1 v2 v5 Ab Ac (k ())) ()))
def aiM (w0:World) (E R:ZZF) (x0 x1 x2:Z):W:=pr (.box 25) [x0] fun v1=>pr (.box 3) [x1] fun v2=>pr (.box 101) [x2] fun v3=>pr .mkMap [] fun v4=>pr (.alloc 102 [.map none]) [] fun v5=>pr (.store 1) [v5,v4] fun v6=>pr (.bZ 7) [v1] fun v28=>pr .aB [v2] fun du=>cl PP w0 Hj [v28,du] (cE (([]:List Nat)) E) fun v30=>Ev PP w0 v30 (fun Ab Ac z33 R=>Hk (fun EM oT=>aab w0 qd R v3 v1 v2 v5 Ab Ac EM oT) z33) (fun yf=>cE (yf::([]:List Nat)) E) (fun yf z34=>zW z34 (aaa w0 E R v1 v2 v5 (yf::([]:List Nat))) ((fun _=>False)) [])
theorem at3 {w0 h Q}(x0:Z)(x1:Z)(x2:Z)(H:aiM w0 (fun v h=>Q (.bC v) h) (fun v h=>Q (.ret v) h) x0 x1 x2 h):WF PP w0 aac [x0,x1,x2] h Q:=by
 let E:ZZF:=fun v h=>Q (.bC v) h
 let R:ZZF:=fun v h=>Q (.ret v) h
 refine Ky cq e60 (dC (cT (aT (vs:=[x0]) (by kernel_rfl) H fun v1 h H=>?_)));refine aT (vs:=[x1]) (by kernel_rfl) H fun v2 h H=>?_;refine aT (vs:=[x2]) (by kernel_rfl) H fun v3 h H=>?_;refine eo (v:=(.map none)) (by kernel_rfl) (cU (dD (dC (cT (aT (vs:=[]) (by kernel_rfl) H fun v4 h H=>?_)))));refine aT (vs:=[]) (by kernel_rfl) H fun v5 h H=>?_;refine aT (vs:=[v5,v4]) (by kernel_rfl) H fun v6 h H=>?_;refine cU (dD (mS (rs:=([]:List Nat)) (α:=Unit) [(s3,v1),(s4,v2),(s7,v5)] (fun a=>[]) (fun σ=>()) (fun a q=>aaa w0 E R v1 v2 v5  q) (fun σ=>trivial) (fun a1 d7 σ h H=>?_) ?_))
 · refine mS (rs:=d7) (α:=Unit) [(s7,v5)] (fun a=>[]) (fun σ=>()) (fun a q=>Z7 w0 E R v5  q) (fun σ=>trivial) (fun a2 d8 σ h H=>?_) ?_
   · refine dC (cT (aT (vs:=[v5]) (by kernel_rfl) H fun v9 h H=>?_));refine eo (v:=v9) (by kernel_rfl) (cU (dD ?_));exact tc (P:=PP) (w0:=w0) KP.results Q (d8) (by kernel_rfl) (Eq.mp (by kernel_rfl) H)
   · refine dC (cT (aT (vs:=[v1]) (by kernel_rfl) H fun v10 h H=>?_));refine aT (vs:=[v10]) (by kernel_rfl) H fun v11 h H=>?_;refine aT (vs:=[v2]) (by kernel_rfl) H fun v12 h H=>?_;refine aT (vs:=[v11,v12]) (by kernel_rfl) H fun bW h H=>?_;refine aT (vs:=[bW]) (by kernel_rfl) H fun cD h H=>?_;refine ta (vs:=[cD]) (by kernel_rfl) H (fun _ _ H=>oR (P:=PP) (w0:=w0) KP.results Q (d7) (by kernel_rfl) H) fun b9 h H=>?_;refine aT (vs:=[b9]) (by kernel_rfl) H fun dr h H=>?_;refine eo (v:=(vi 0)) (by kernel_rfl) (cU (dD (n7 (Kz cq (rs:=d7) (α:=Z) [(s7,v5),(tj,b9),(n8,dr)] (fun a=>[(qg,a)]) (fun σ=>(σ qg)) (fun k a=>EL w0 E R dr b9 v5 (fun b0 q=>k ((b0),q)) a.1 a.2) (fun σ=>(And.intro rfl trivial)) (fun k_3 a3 d19 σ h H=>?_) (x:=((vi 0))) (by kernel_rfl) (Eq.mp (by kernel_rfl) (And.intro (Eq.refl (v5:Z)) (And.intro (Eq.refl (b9:Z)) (And.intro (Eq.refl (dr:Z)) trivial)))) H))));refine dC (cT (aT (vs:=[a3,dr]) (by kernel_rfl) H fun v20 h H=>?_));refine cU (dD (mS (rs:=d19) (α:=Unit) [(s7,v5),(tj,b9),(n8,dr),(qg,a3)] (fun a=>[]) (fun σ=>()) (fun a q=>Z9 w0 E R b9 a3 v5 (fun b0 q=>k_3 ((b0),q))  q) (fun σ=>trivial) (fun a4 d21 σ h H=>?_) ?_))
     · refine mS (rs:=d21) (α:=Unit) [(s7,v5),(tj,b9),(n8,dr),(qg,a3)] (fun a=>[]) (fun σ=>()) (fun a q=>Z8 w0 E R a3 (fun b0 q=>k_3 ((b0),q))  q) (fun σ=>trivial) (fun a5 d22 σ h H=>?_) ?_
       · refine cT (aT (vs:=[a3,vi 1]) (by kernel_rfl) H fun fE h H=>?_);refine eo (v:=fE) (by kernel_rfl) (cU ?_);exact Exists.intro (d22) (Eq.mp (by kernel_rfl) (And.intro (Eq.refl (gn (d22))) (And.intro (And.intro (Eq.refl (v5:Z)) (And.intro (Eq.refl (b9:Z)) (And.intro (Eq.refl (dr:Z)) trivial))) H)))
       · refine n7 (dC (cT (aT (vs:=[b9,a3]) (by kernel_rfl) H fun v24 h H=>?_)));refine aT (vs:=[v24]) (by kernel_rfl) H fun ct h H=>?_;refine eo (v:=ct) (by kernel_rfl) (cU (dD (cT (aT (vs:=[v5]) (by kernel_rfl) H fun eN h H=>?_))));refine eo (v:=ct) (by kernel_rfl) (aT (vs:=[eN,ct,.bool true]) (by kernel_rfl) H fun dE h H=>?_);refine cU (qR ?_);exact Exists.intro (d21) (Eq.mp (by kernel_rfl) (And.intro (Eq.refl (gn (d21))) (And.intro (And.intro (Eq.refl (v5:Z)) (And.intro (Eq.refl (b9:Z)) (And.intro (Eq.refl (dr:Z)) (And.intro (Eq.refl (a3:Z)) trivial)))) H)))
     · refine mT (v:=v20) (by kernel_rfl) H (fun H=>?_) (fun H=>?_)
       · refine nA ?_;exact Exists.intro (d19) (Eq.mp (by kernel_rfl) (And.intro (Eq.refl (gn (d19))) (And.intro (And.intro (Eq.refl (v5:Z)) (And.intro (Eq.refl (b9:Z)) (And.intro (Eq.refl (dr:Z)) (And.intro (Eq.refl (a3:Z)) trivial)))) H)))
       · exact Exists.intro (d19) (Eq.mp (by kernel_rfl) (And.intro (Eq.refl (gn (d19))) (And.intro (And.intro (Eq.refl (v5:Z)) trivial) H)))
 · refine dC (cT (aT (vs:=[v1]) (by kernel_rfl) H fun v28 h H=>?_));refine aT (vs:=[v2]) (by kernel_rfl) H fun du h H=>?_;refine ta (vs:=[v28,du]) (by kernel_rfl) H (fun _ _ H=>oR (P:=PP) (w0:=w0) KP.results Q (([]:List Nat)) (by kernel_rfl) H) fun v30 h H=>?_;refine cU (dD (n7 (Rs cq (rs:=([]:List Nat)) _ _ _ _ _ (fv:=v30) (by kernel_rfl) H (fun yf _ _ H=>oR (P:=PP) (w0:=w0) KP.results Q (yf::([]:List Nat)) (by kernel_rfl) H) (fun yf h H=>?_) (fun yf h H=>?_) (fun yf=>trivial) (fun Ab YY Ac z33 R h H=>?_))))
   · refine qR ?_;exact Exists.intro (yf::([]:List Nat)) (Eq.mp (by kernel_rfl) (And.intro (Eq.refl (gn (yf::([]:List Nat)))) (And.intro (And.intro (Eq.refl (v1:Z)) (And.intro (Eq.refl (v2:Z)) (And.intro (Eq.refl (v5:Z)) trivial))) H)))
   · exact False.elim H
   · obtain⟨EM,oT,rfl,H⟩:=Ru H
     let E:ZZF:=qd
     have H2:=Rv H;refine⟨H2.1,rfl,?_⟩;have H:=H2.2;refine dC (cT (eo (v:=EM) (by kernel_rfl) (cU (dD (cT (eo (v:=oT) (by kernel_rfl) (cU (Rw H (fun h H=>?_)))))))));refine n7 (dC (cT (aT (vs:=[v3]) (by kernel_rfl) H fun eT h H=>?_)));refine eo (v:=EM) (by kernel_rfl) (aT (vs:=[eT,EM]) (by kernel_rfl) H fun bh h H=>?_);refine aT (vs:=[bh]) (by kernel_rfl) H fun v40 h H=>?_;refine aT (vs:=[v40]) (by kernel_rfl) H fun aN h H=>?_;refine cU (dD (n7 (at4 cq (α:=Unit) [(s3,v1),(s4,v2),(s7,v5),(s9,oT),(uL,aN)] (fun a=>[]) (fun σ=>()) (fun k a=>aiL w0 E R aN oT v1 v2 v5 Ab Ac (k ())) (fun σ=>trivial) (fun k_6 a6 σ h H=>?_) (x:=()) (by kernel_rfl) (Eq.mp (by kernel_rfl) (And.intro (Eq.refl (v1:Z)) (And.intro (Eq.refl (v2:Z)) (And.intro (Eq.refl (v5:Z)) (And.intro (Eq.refl (oT:Z)) (And.intro (Eq.refl (aN:Z)) trivial)))))) H)));refine dC (cT (aT (vs:=[aN]) (by kernel_rfl) H fun gY h H=>?_));refine aT (vs:=[gY]) (by kernel_rfl) H fun iF h H=>?_;refine cU (dD (Rx (α:=Unit) [(s3,v1),(s4,v2),(s7,v5),(s9,oT),(uL,aN)] (fun a=>[]) (fun σ=>()) (fun a=>Sd w0 E R aN oT v1 v2 v5 (k_6 ())) (fun σ=>trivial) (fun a7 σ h H=>?_) ?_))
     · refine n7 (dC (cT (aT (vs:=[aN]) (by kernel_rfl) H fun gZ h H=>?_)));refine aT (vs:=[gZ]) (by kernel_rfl) H fun v46 h H=>?_;refine eo (v:=v46) (by kernel_rfl) (cU (dD (dC (cT (eo (v:=oT) (by kernel_rfl) (aT (vs:=[oT,vi 2]) (by kernel_rfl) H fun dP h H=>?_))))));refine eo (v:=dP) (by kernel_rfl) (zX (v:=v46) (gv:=dP) (by kernel_rfl) (by kernel_rfl) H fun fo h H=>?_);refine hO (vs:=[v1]) (gv:=dP) (by kernel_rfl) (by kernel_rfl) H fun v49 h H=>?_;refine hO (vs:=[v49]) (gv:=dP) (by kernel_rfl) (by kernel_rfl) H fun jz h H=>?_;refine hO (vs:=[v2]) (gv:=dP) (by kernel_rfl) (by kernel_rfl) H fun v51 h H=>?_;refine hO (vs:=[jz,v51]) (gv:=dP) (by kernel_rfl) (by kernel_rfl) H fun bS h H=>?_;refine hO (vs:=[bS]) (gv:=dP) (by kernel_rfl) (by kernel_rfl) H fun v53 h H=>?_;refine Y8 (vs:=[v53]) (gv:=dP) (by kernel_rfl) (by kernel_rfl) H (fun _ _ H=>False.elim H) fun lb h H=>?_;refine hO (vs:=[fo,lb]) (gv:=dP) (by kernel_rfl) (by kernel_rfl) H fun cr h H=>?_;refine aT (vs:=[dP,.bool true,cr]) (by kernel_rfl) H fun cG h H=>?_;refine cU (dD (mT (v:=cG) (by kernel_rfl) H (fun H=>?_) (fun H=>?_)))
       · refine cT (aT (vs:=[v5]) (by kernel_rfl) H fun dB h H=>?_);refine eo (v:=v46) (by kernel_rfl) (aT (vs:=[dB,v46,.bool true]) (by kernel_rfl) H fun iG h H=>?_);refine cU (qR ?_);exact Eq.mp (by kernel_rfl) (And.intro (Eq.refl (⟨[],.off⟩:DS)) (And.intro (And.intro (Eq.refl (v1:Z)) (And.intro (Eq.refl (v2:Z)) (And.intro (Eq.refl (v5:Z)) (And.intro (Eq.refl (oT:Z)) (And.intro (Eq.refl (aN:Z)) trivial))))) H))
       · refine nA (qR ?_);exact Eq.mp (by kernel_rfl) (And.intro (Eq.refl (⟨[],.off⟩:DS)) (And.intro (And.intro (Eq.refl (v1:Z)) (And.intro (Eq.refl (v2:Z)) (And.intro (Eq.refl (v5:Z)) (And.intro (Eq.refl (oT:Z)) (And.intro (Eq.refl (aN:Z)) trivial))))) H))
     · refine mT (v:=iF) (by kernel_rfl) H (fun H=>?_) (fun H=>?_)
       · refine nA ?_;exact Eq.mp (by kernel_rfl) (And.intro (Eq.refl (⟨[],.off⟩:DS)) (And.intro (And.intro (Eq.refl (v1:Z)) (And.intro (Eq.refl (v2:Z)) (And.intro (Eq.refl (v5:Z)) (And.intro (Eq.refl (oT:Z)) (And.intro (Eq.refl (aN:Z)) trivial))))) H))
       · exact Eq.mp (by kernel_rfl) (And.intro (Eq.refl ([]:List iS)) H)
def aad (w0:World) (E R:ZZF) (y1:Z):W:=R y1
def aae (w0:World) (E R:ZZF) (y5:Z) (k3:Z→ZZF) (y7:Z):W:=pr (.aL .add) [y5,vi 1] fun v8=>k3 y7 v8
def aaf (w0:World) (E R:ZZF) (x0 y5 x1 y4:Z) (k3:Z→ZZF):W:=pr (.cf 1) [x0,y5] fun v9=>pr .aB [v9] fun v10=>dy PP w0 [x1,v10] E fun v11=>pr (.buildSlice 28 1 [bJ] [(0,1)]) [v11] fun v12=>pr (.append 28 1 [bJ]) [y4,v12] fun bW=>aae w0 E R y5 k3 bW
def Sf (w0:World) (E R:ZZF) (v2 x0 x1:Z) (k3:Z→ZZF) (y4 y5:Z):W:=pr (.aL .lss) [y5,v2] fun v6=>br v6 (aaf w0 E R x0 y5 x1 y4 k3) (aad w0 E R  y4)
def aiN (w0:World) (E R:ZZF) (x0 x1:Z):W:=pr .cb [x0] fun v2=>LP (α:=Z×Z) (fun k a=>Sf w0 E R v2 x0 x1 (fun b0 b1=>k (b0,b1)) a.1 a.2) (bJ,(vi 0))
theorem at5 {w0 h Q}(x0 x1:Z)(H:aiN w0 (fun v h=>Q (.bC v) h) (fun v h=>Q (.ret v) h) x0 x1 h):WF PP w0 aag [x0,x1] h Q:=
 fm cq e61 [[s5,wT]] (by kernel_rfl) (Eq.mp (by kernel_rfl) H)
def aah (w0:World) (E R:ZZF) (v5:Z):W:=cl PP w0 aag [v5,fc Sc] E fun v6=>R v6
def Sg (w0:World) (E R:ZZF) (bL:Z) (rW:Z→ZZF) (eC:Z):W:=pr (.aL .sub) [bL,vi 1] fun dc=>rW eC dc
def aai (w0:World) (E R:ZZF) (v1 bL v5:Z) (rW:Z→ZZF) (ch:Z):W:=pr (.bZ 7) [v1] fun aq=>cl PP w0 aac [aq,bL,v5] E fun dS=>pr .Ht [dS] fun v20=>pr (.cf 1) [v5,bL] fun v21=>pr .aB [v21] fun gX=>pr .Ht [gX] fun fE=>pr (.aL .neq) [v20,fE] fun v24=>br v24 (pr (.cf 1) [v5,bL] fun ct=>pr (.store 1) [ct,dS] fun eN=>Sg w0 E R bL rW (.bool true)) (Sg w0 E R bL rW ch)
def Sh (w0:World) (E R:ZZF) (v1 v5:Z) (k7:ZZF) (rW:Z→ZZF) (ch bL:Z):W:=pr (.aL .geq) [bL,vi 0] fun dE=>br dE (aai w0 E R v1 bL v5 rW ch) (k7 ch)
def aaj (w0:World) (E R:ZZF) (v1 v5:Z) (k7:ZZF):W:=pr (.fieldAddr 5) [v1] fun v9=>pr .aB [v9] fun v10=>pr .cb [v10] fun v11=>pr (.aL .sub) [v11,vi 1] fun v12=>LP (α:=Z×Z) (fun k a=>Sh w0 E R v1 v5 k7 (fun b0 b1=>k (b0,b1)) a.1 a.2) ((.bool false),v12)
def Si (w0:World) (E R:ZZF) (v1 v5:Z) (k7:ZZF) (y8:Z):W:=br y8 (aaj w0 E R v1 v5 k7) (aah w0 E R v5)
def aak (w0:World) (E R:ZZF) (v1:Z):W:=pr (.fieldAddr 5) [v1] fun v2=>pr .aB [v2] fun v3=>pr .cb [v3] fun v4=>pr (.mkSlice 102 1 [.map none]) [v4,v4] fun v5=>LP (α:=Z) (fun k a=>Si w0 E R v1 v5 k a) ((.bool true))
def aiO (w0:World) (E R:ZZF) (x0:Z):W:=pr (.box 25) [x0] fun v1=>pr (.bZ 7) [v1] fun v28=>cl PP w0 Hp [v28] E fun du=>pr .ed [du] fun v30=>br v30 (R bJ) (aak w0 E R v1)
theorem at6 {w0 h Q}(x0:Z)(H:aiO w0 (fun v h=>Q (.bC v) h) (fun v h=>Q (.ret v) h) x0 h):WF PP w0 Sj [x0] h Q:=
 fm cq e18 [[s4],[s4,s5]] (by kernel_rfl) (Eq.mp (by kernel_rfl) H)
def aal (w0:World) (E R:ZZF)  :W:=R (.bool true)
def aam (w0:World) (E R:ZZF) (y4:Z) (k3:ZZF):W:=pr (.aL .add) [y4,vi 1] fun v5=>k3 v5
def aan (w0:World) (E R:ZZF) (v1 y4 v2:Z) (k3:ZZF):W:=pr (.fieldAddr 6) [v1] fun v6=>pr .aB [v6] fun v7=>pr (.cf 3) [v7,y4] fun v8=>pr (.bZ 3) [v8] fun v9=>pr (.fieldAddr 6) [v2] fun v10=>pr .aB [v10] fun v11=>pr (.cf 3) [v11,y4] fun v12=>pr (.bZ 3) [v12] fun bW=>pr (.Ho true [0,0,0]) [v9,bW] fun cD=>br cD (R (.bool false)) (aam w0 E R y4 k3)
def Sk (w0:World) (E R:ZZF) (v1 v2:Z) (k3:ZZF) (y4:Z):W:=pr (.fieldAddr 6) [v1] fun b9=>pr .aB [b9] fun dr=>pr .cb [dr] fun dc=>pr (.aL .lss) [y4,dc] fun aq=>br aq (aan w0 E R v1 y4 v2 k3) (aal w0 E R)
def aao (w0:World) (E R:ZZF) (v1 v2:Z):W:=LP (α:=Z) (fun k a=>Sk w0 E R v1 v2 k a) ((vi 0))
def aap (w0:World) (E R:ZZF) (jC:Z) (tk:ZZF):W:=pr (.aL .add) [jC,vi 1] fun v21=>tk v21
def aaq (w0:World) (E R:ZZF) (v1 jC v2:Z) (tk:ZZF):W:=pr (.fieldAddr 5) [v1] fun gX=>pr .aB [gX] fun fE=>pr (.cf 4) [fE,jC] fun v24=>pr (.bZ 4) [v24] fun ct=>pr (.fieldAddr 5) [v2] fun eN=>pr .aB [eN] fun dE=>pr (.cf 4) [dE,jC] fun v28=>pr (.bZ 4) [v28] fun du=>pr (.Ho true [0,0,0,0]) [ct,du] fun v30=>br v30 (R (.bool false)) (aap w0 E R jC tk)
def Sm (w0:World) (E R:ZZF) (v1 v2:Z) (tk:ZZF) (jC:Z):W:=pr (.fieldAddr 5) [v1] fun v31=>pr .aB [v31] fun iR=>pr .cb [iR] fun jA=>pr (.aL .lss) [jC,jA] fun eO=>br eO (aaq w0 E R v1 jC v2 tk) (aao w0 E R v1 v2)
def aar (w0:World) (E R:ZZF) (v1 v2:Z):W:=LP (α:=Z) (fun k a=>Sm w0 E R v1 v2 k a) ((vi 0))
def aas (w0:World) (E R:ZZF) (v1 v2 my:Z):W:=br my (R (.bool false)) (aar w0 E R v1 v2)
def aat (w0:World) (E R:ZZF) (v1 v2 ie:Z):W:=gd ie false (fun k=>pr (.fieldAddr 6) [v1] k) fun v72=>gd ie false (fun k=>pr .aB [v72] k) fun eB=>gd ie false (fun k=>pr .cb [eB] k) fun iy=>gd ie false (fun k=>pr (.fieldAddr 6) [v2] k) fun v75=>gd ie false (fun k=>pr .aB [v75] k) fun v76=>gd ie false (fun k=>pr .cb [v76] k) fun rK=>gd ie false (fun k=>pr (.aL .neq) [iy,rK] k) fun oQ=>pr .pick [ie,.bool true,oQ] fun my=>aas w0 E R v1 v2 my
def aau (w0:World) (E R:ZZF) (v1 v2 iv:Z):W:=gd iv false (fun k=>pr (.fieldAddr 5) [v1] k) fun lf=>gd iv false (fun k=>pr .aB [lf] k) fun bX=>gd iv false (fun k=>pr .cb [bX] k) fun jI=>gd iv false (fun k=>pr (.fieldAddr 5) [v2] k) fun mu=>gd iv false (fun k=>pr .aB [mu] k) fun mw=>gd iv false (fun k=>pr .cb [mw] k) fun n5=>gd iv false (fun k=>pr (.aL .neq) [jI,n5] k) fun v70=>pr .pick [iv,.bool true,v70] fun ie=>aat w0 E R v1 v2 ie
def aav (w0:World) (E R:ZZF) (v1 v2 dB:Z):W:=gd dB false (fun k=>pr (.fieldAddr 4) [v1] k) fun iG=>gd dB false (fun k=>pr .aB [iG] k) fun v59=>gd dB false (fun k=>pr (.fieldAddr 4) [v2] k) fun mQ=>gd dB false (fun k=>pr .aB [mQ] k) fun cm=>gd dB false (fun k=>pr (.aL .neq) [v59,cm] k) fun nw=>pr .pick [dB,.bool true,nw] fun iv=>aau w0 E R v1 v2 iv
def aaw (w0:World) (E R:ZZF) (v1 v2 v51:Z):W:=gd v51 false (fun k=>pr (.fieldAddr 3) [v1] k) fun bS=>gd v51 false (fun k=>pr .aB [bS] k) fun v53=>gd v51 false (fun k=>pr (.fieldAddr 3) [v2] k) fun lb=>gd v51 false (fun k=>pr .aB [lb] k) fun cr=>gd v51 false (fun k=>pr (.aL .neq) [v53,cr] k) fun cG=>pr .pick [v51,.bool true,cG] fun dB=>aav w0 E R v1 v2 dB
def aax (w0:World) (E R:ZZF) (v1 v2 gZ:Z):W:=gd gZ false (fun k=>pr (.fieldAddr 2) [v1] k) fun v46=>gd gZ false (fun k=>pr .aB [v46] k) fun dP=>gd gZ false (fun k=>pr (.fieldAddr 2) [v2] k) fun fo=>gd gZ false (fun k=>pr .aB [fo] k) fun v49=>gd gZ false (fun k=>pr (.aL .neq) [dP,v49] k) fun jz=>pr .pick [gZ,.bool true,jz] fun v51=>aaw w0 E R v1 v2 v51
def aiP (w0:World) (E R:ZZF) (x0 x1:Z):W:=pr (.box 25) [x0] fun v1=>pr (.box 25) [x1] fun v2=>pr (.fieldAddr 0) [v1] fun dM=>pr .aB [dM] fun ja=>pr (.fieldAddr 0) [v2] fun v37=>pr .aB [v37] fun eT=>pr (.zT .neq) [ja,eT] fun bh=>gd bh false (fun k=>pr (.fieldAddr 1) [v1] k) fun v40=>gd bh false (fun k=>pr .aB [v40] k) fun aN=>gd bh false (fun k=>pr (.fieldAddr 1) [v2] k) fun gK=>gd bh false (fun k=>pr .aB [gK] k) fun gY=>gd bh false (fun k=>pr (.zT .neq) [aN,gY] k) fun iF=>pr .pick [bh,.bool true,iF] fun gZ=>aax w0 E R v1 v2 gZ
theorem at7 {w0 h Q}(x0 x1:Z)(H:aiP w0 (fun v h=>Q (.bC v) h) (fun v h=>Q (.ret v) h) x0 x1 h):WF PP w0 aay [x0,x1] h Q:=
 fm cq e22 [[s5],[s6]] (by kernel_rfl) (Eq.mp (by kernel_rfl) H)
def aaz (w0:World) (E R:ZZF) (v1 dr:Z):W:=gd dr true (fun k=>pr (.fieldAddr 6) [v1] k) fun dc=>gd dr true (fun k=>pr .aB [dc] k) fun aq=>gd dr true (fun k=>pr .cb [aq] k) fun dS=>gd dr true (fun k=>pr (.aL .leq) [dS,vi 8] k) fun v20=>gd dr true (fun k=>k v20) fun v21=>gd v21 false (fun k=>pr (.fieldAddr 6) [v1] k) fun gX=>gd v21 false (fun k=>pr .aB [gX] k) fun fE=>gd v21 false (fun k=>pr .cb [fE] k) fun v24=>gd v21 false (fun k=>pr (.aL .gtr) [v24,vi 40] k) fun ct=>gd v21 false (fun k=>k ct) fun eN=>gd eN true (fun k=>pr (.fieldAddr 6) [v1] k) fun dE=>gd eN true (fun k=>pr .aB [dE] k) fun v28=>gd eN true (fun k=>pr .cb [v28] k) fun du=>gd eN true (fun k=>pr (.aL .leq) [du,vi 60] k) fun v30=>gd v21 false (fun k=>pr .pick [eN,v30,.bool false] k) fun v31=>gd dr true (fun k=>pr .pick [v21,.bool true,v31] k) fun iR=>pr .pick [dr,iR,.bool false] fun jA=>R jA
def aiQ (w0:World) (E R:ZZF) (x0:Z):W:=pr (.box 25) [x0] fun v1=>pr (.fieldAddr 5) [v1] fun v2=>pr .aB [v2] fun v3=>pr .cb [v3] fun v4=>pr (.aL .leq) [v4,vi 40] fun v5=>gd v5 false (fun k=>pr (.fieldAddr 5) [v1] k) fun v6=>gd v5 false (fun k=>pr .aB [v6] k) fun v7=>gd v5 false (fun k=>pr .cb [v7] k) fun v8=>gd v5 false (fun k=>pr (.aL .gtr) [v8,vi 600] k) fun v9=>gd v5 false (fun k=>k v9) fun v10=>gd v10 true (fun k=>pr (.fieldAddr 5) [v1] k) fun v11=>gd v10 true (fun k=>pr .aB [v11] k) fun v12=>gd v10 true (fun k=>pr .cb [v12] k) fun bW=>gd v10 true (fun k=>pr (.aL .leq) [bW,vi 700] k) fun cD=>gd v5 false (fun k=>pr .pick [v10,cD,.bool false] k) fun b9=>pr .pick [v5,.bool true,b9] fun dr=>aaz w0 E R v1 dr
theorem aua {w0 h Q}(x0:Z)(H:aiQ w0 (fun v h=>Q (.bC v) h) (fun v h=>Q (.ret v) h) x0 h):WF PP w0 aaA [x0] h Q:=
 fm cq e13 [] (by kernel_rfl) (Eq.mp (by kernel_rfl) H)
def aaB (w0:World) (E R:ZZF) (v1 gK:Z):W:=gd gK true (fun k=>pr (.fieldAddr 2) [v1] k) fun gY=>gd gK true (fun k=>pr .aB [gY] k) fun iF=>gd gK true (fun k=>pr .cb [iF] k) fun gZ=>gd gK true (fun k=>pr (.aL .leq) [gZ,vi 500] k) fun v46=>pr .pick [gK,v46,.bool false] fun dP=>R dP
def aaC (w0:World) (E R:ZZF) (v1 v31:Z):W:=gd v31 true (fun k=>pr (.fieldAddr 2) [v1] k) fun iR=>gd v31 true (fun k=>pr .aB [iR] k) fun jA=>gd v31 true (fun k=>pr .cb [jA] k) fun eO=>gd v31 true (fun k=>pr (.aL .leq) [eO,vi 12] k) fun dM=>gd v31 true (fun k=>k dM) fun ja=>gd ja false (fun k=>pr (.fieldAddr 2) [v1] k) fun v37=>gd ja false (fun k=>pr .aB [v37] k) fun eT=>gd ja false (fun k=>pr .cb [eT] k) fun bh=>gd ja false (fun k=>pr (.aL .gtr) [bh,vi 400] k) fun v40=>gd v31 true (fun k=>pr .pick [ja,.bool true,v40] k) fun aN=>pr .pick [v31,aN,.bool false] fun gK=>aaB w0 E R v1 gK
def aaD (w0:World) (E R:ZZF) (v1 eN:Z):W:=gd eN true (fun k=>pr (.fieldAddr 1) [v1] k) fun dE=>gd eN true (fun k=>pr .aB [dE] k) fun v28=>gd eN true (fun k=>pr .cb [v28] k) fun du=>gd eN true (fun k=>pr (.aL .leq) [du,vi 500] k) fun v30=>pr .pick [eN,v30,.bool false] fun v31=>aaC w0 E R v1 v31
def aaE (w0:World) (E R:ZZF) (v1 b9:Z):W:=gd b9 true (fun k=>pr (.fieldAddr 1) [v1] k) fun dr=>gd b9 true (fun k=>pr .aB [dr] k) fun dc=>gd b9 true (fun k=>pr .cb [dc] k) fun aq=>gd b9 true (fun k=>pr (.aL .leq) [aq,vi 12] k) fun dS=>gd b9 true (fun k=>k dS) fun v20=>gd v20 false (fun k=>pr (.fieldAddr 1) [v1] k) fun v21=>gd v20 false (fun k=>pr .aB [v21] k) fun gX=>gd v20 false (fun k=>pr .cb [gX] k) fun fE=>gd v20 false (fun k=>pr (.aL .gtr) [fE,vi 400] k) fun v24=>gd b9 true (fun k=>pr .pick [v20,.bool true,v24] k) fun ct=>pr .pick [b9,ct,.bool false] fun eN=>aaD w0 E R v1 eN
def aaF (w0:World) (E R:ZZF) (v1 v10:Z):W:=gd v10 true (fun k=>pr (.fieldAddr 0) [v1] k) fun v11=>gd v10 true (fun k=>pr .aB [v11] k) fun v12=>gd v10 true (fun k=>pr .cb [v12] k) fun bW=>gd v10 true (fun k=>pr (.aL .leq) [bW,vi 80] k) fun cD=>pr .pick [v10,cD,.bool false] fun b9=>aaE w0 E R v1 b9
def aaG (w0:World) (E R:ZZF) (v1:Z):W:=pr (.fieldAddr 0) [v1] fun v2=>pr .aB [v2] fun v3=>pr .cb [v3] fun v4=>pr (.aL .leq) [v4,vi 8] fun v5=>gd v5 false (fun k=>pr (.fieldAddr 0) [v1] k) fun v6=>gd v5 false (fun k=>pr .aB [v6] k) fun v7=>gd v5 false (fun k=>pr .cb [v7] k) fun v8=>gd v5 false (fun k=>pr (.aL .gtr) [v8,vi 60] k) fun v9=>pr .pick [v5,.bool true,v9] fun v10=>aaF w0 E R v1 v10
def aaH (w0:World) (E R:ZZF) (eW:Z) (oU:ZZF):W:=pr (.aL .add) [eW,vi 1] fun jz=>oU jz
def aaI (w0:World) (E R:ZZF) (eW:Z) (oU:ZZF) (jI:Z):W:=br jI (R (.bool false)) (aaH w0 E R eW oU)
def aaJ (w0:World) (E R:ZZF) (v1 eW:Z) (oU:ZZF):W:=pr (.fieldAddr 0) [v1] fun v51=>pr .aB [v51] fun bS=>pr (.cf 4) [bS,eW] fun v53=>pr (.fieldAddr 1) [v53] fun lb=>pr .aB [lb] fun cr=>pr .cb [cr] fun cG=>pr (.aL .gtr) [cG,vi 80] fun dB=>gd dB false (fun k=>pr (.fieldAddr 0) [v1] k) fun iG=>gd dB false (fun k=>pr .aB [iG] k) fun v59=>gd dB false (fun k=>k eW) fun mQ=>gd dB false (fun k=>pr (.cf 4) [v59,mQ] k) fun cm=>gd dB false (fun k=>pr (.fieldAddr 2) [cm] k) fun nw=>gd dB false (fun k=>pr .aB [nw] k) fun iv=>gd dB false (fun k=>pr .cb [iv] k) fun lf=>gd dB false (fun k=>pr (.aL .gtr) [lf,vi 500] k) fun bX=>pr .pick [dB,.bool true,bX] fun jI=>aaI w0 E R eW oU jI
def Sn (w0:World) (E R:ZZF) (v1:Z) (oU:ZZF) (eW:Z):W:=pr (.fieldAddr 0) [v1] fun mu=>pr .aB [mu] fun mw=>pr .cb [mw] fun n5=>pr (.aL .lss) [eW,n5] fun v70=>br v70 (aaJ w0 E R v1 eW oU) (aaG w0 E R v1)
def aaK (w0:World) (E R:ZZF) (v1:Z):W:=LP (α:=Z) (fun k a=>Sn w0 E R v1 k a) ((vi 0))
def aaL (w0:World) (E R:ZZF) (iw:Z) (tl:ZZF):W:=pr (.aL .add) [iw,vi 1] fun eB=>tl eB
def aaM (w0:World) (E R:ZZF) (v1 iw:Z) (tl:ZZF):W:=pr (.fieldAddr 2) [v1] fun iy=>pr .aB [iy] fun v75=>pr (.cf 7) [v75,iw] fun v76=>pr (.bZ 7) [v76] fun rK=>cl PP w0 aaA [rK] E fun oQ=>pr .ed [oQ] fun my=>br my (R (.bool false)) (aaL w0 E R iw tl)
def Sp (w0:World) (E R:ZZF) (v1:Z) (tl:ZZF) (iw:Z):W:=pr (.fieldAddr 2) [v1] fun v80=>pr .aB [v80] fun kL=>pr .cb [kL] fun rM=>pr (.aL .lss) [iw,rM] fun rN=>br rN (aaM w0 E R v1 iw tl) (aaK w0 E R v1)
def aiR (w0:World) (E R:ZZF) (x0:Z):W:=pr (.box 51) [x0] fun v1=>LP (α:=Z) (fun k a=>Sp w0 E R v1 k a) ((vi 0))
theorem aub {w0 h Q}(x0:Z)(H:aiR w0 (fun v h=>Q (.bC v) h) (fun v h=>Q (.ret v) h) x0 h):WF PP w0 aaN [x0] h Q:=
 fm cq e23 [[s3],[s4]] (by kernel_rfl) (Eq.mp (by kernel_rfl) H)
def Sq (w0:World) (E R:ZZF) (v8 v3:Z) (d16:List Nat):W:=pr .aB [v8] fun dc=>pr (.store 1) [v3,dc] fun aq=>iH (d16) (ld .aB [v3] fun dS=>R dS)
def Sr (w0:World) (E R:ZZF) (v8 fp v11:Z) (wU:LO) (wV:Nat):W:=pr .aB [v8] fun fo=>pr (.cf 1) [fo,fp] fun v49=>pr .aB [v49] fun jz=>pr .ed [jz] fun v51=>br v51 (pr .aB [v8] fun bS=>pr (.cf 1) [bS,fp] fun v53=>pr (.store 1) [v53,.bool true] fun lb=>pr .aB [v11] fun cr=>pr (.buildSlice 3 1 [vi 0] [(0,1)]) [fp] fun cG=>pr (.append 3 1 [vi 0]) [cr,cG] fun dB=>pr (.store 1) [v11,dB] fun iG=>lg wU wV .ready none true R) (lg wU wV .ready none true R)
def Ss (w0:World) (E R:ZZF) (v2 du v3 v8 v11:Z) (wU:LO) (wV:Nat) (fp uM:Z):W:=wO wU wV (rQ wU wV (pr .aB [v2] fun v59=>pr .aB [du] fun mQ=>dy PP w0 [v59,mQ,fp,uM] qd fun cm=>pr .ed [cm] fun nw=>br nw (pr (.store 1) [v3,bJ] fun iv=>lg wU wV .done (some .ret) false R) (Sr w0 E R v8 fp v11 wU wV)))
def Su (w0:World) (E R:ZZF) (v11 v1 v2 v3 v8:Z) (Ad:List Nat→W) (d22:List Nat):W:=pr .aB [v11] fun fE=>pr .aB [v11] fun v24=>pr .cb [v24] fun ct=>pr (.aL .sub) [ct,vi 1] fun eN=>pr (.cf 1) [fE,eN] fun dE=>pr .aB [dE] fun v28=>pr (.alloc 3 [vi 0]) [] fun du=>pr (.store 1) [du,v28] fun v30=>pr .aB [v11] fun v31=>pr .aB [v11] fun iR=>pr .cb [iR] fun jA=>pr (.aL .sub) [jA,vi 1] fun eO=>pr (.slice 1 false true false) [v31,eO] fun dM=>pr (.store 1) [v11,dM] fun ja=>pr (.bZ 7) [v1] fun v37=>pr .aB [du] fun eT=>cl PP w0 Hj [v37,eT] (cE (d22) E) fun bh=>Ev PP w0 bh (fun wU wV z42 R=>Hk (fun fp uM=>Ss w0 qd R v2 du v3 v8 v11 wU wV fp uM) z42) (fun uN=>cE (uN::d22) E) (fun uN z43=>zW z43 (Ad (uN::d22)) (iH (uN::d22) (ld .aB [v3] fun dP=>R dP)) [])
def KQ (w0:World) (E R:ZZF) (v11 v1 v2 v3 v8:Z) (Ad:List Nat→W) (d21:List Nat):W:=pr .aB [v11] fun lf=>pr .cb [lf] fun bX=>pr (.aL .gtr) [bX,vi 0] fun jI=>br jI (Su w0 E R v11 v1 v2 v3 v8 Ad (d21)) (Sq w0 E R v8 v3 (d21))
def aiS (w0:World) (E R:ZZF) (x0 x1:Z):W:=pr (.box 25) [x0] fun v1=>pr (.box 100) [x1] fun v2=>pr (.alloc 39 [bJ]) [] fun v3=>pr (.fieldAddr 5) [v1] fun v4=>pr .aB [v4] fun v5=>pr .cb [v5] fun v6=>pr (.mkSlice 4 1 [.bool false]) [v6,v6] fun v7=>pr (.alloc 39 [bJ]) [] fun v8=>pr (.store 1) [v8,v7] fun v9=>pr (.buildSlice 3 1 [vi 0] [(0,1)]) [vi 0] fun v10=>pr (.alloc 28 [bJ]) [] fun v11=>pr (.store 1) [v11,v10] fun v12=>pr .aB [v8] fun bW=>pr (.cf 1) [bW,vi 0] fun cD=>pr (.store 1) [cD,.bool true] fun b9=>LP (α:=(Unit)×List Nat) (fun k a=>KQ w0 E R v11 v1 v2 v3 v8 (fun  q=>k ((),q)) a.2) ((),([]:List Nat))
theorem auc {w0 h Q}(x0:Z)(x1:Z)(H:aiS w0 (fun v h=>Q (.bC v) h) (fun v h=>Q (.ret v) h) x0 x1 h):WF PP w0 aaO [x0,x1] h Q:=by
 let E:ZZF:=fun v h=>Q (.bC v) h
 let R:ZZF:=fun v h=>Q (.ret v) h
 refine Ky cq e78 (dC (cT (aT (vs:=[x0]) (by kernel_rfl) H fun v1 h H=>?_)));refine aT (vs:=[x1]) (by kernel_rfl) H fun v2 h H=>?_;refine aT (vs:=[]) (by kernel_rfl) H fun v3 h H=>?_;refine cU (dD (dC (cT (aT (vs:=[v1]) (by kernel_rfl) H fun v4 h H=>?_))));refine aT (vs:=[v4]) (by kernel_rfl) H fun v5 h H=>?_;refine aT (vs:=[v5]) (by kernel_rfl) H fun v6 h H=>?_;refine aT (vs:=[v6,v6]) (by kernel_rfl) H fun v7 h H=>?_;refine aT (vs:=[]) (by kernel_rfl) H fun v8 h H=>?_;refine aT (vs:=[v8,v7]) (by kernel_rfl) H fun v9 h H=>?_;refine cU (dD (dC (cT (aT (vs:=[vi 0]) (by kernel_rfl) H fun v10 h H=>?_))));refine aT (vs:=[]) (by kernel_rfl) H fun v11 h H=>?_;refine aT (vs:=[v11,v10]) (by kernel_rfl) H fun v12 h H=>?_;refine cU (dD (dC (cT (aT (vs:=[v8]) (by kernel_rfl) H fun bW h H=>?_))));refine aT (vs:=[bW,vi 0]) (by kernel_rfl) H fun cD h H=>?_;refine aT (vs:=[cD,.bool true]) (by kernel_rfl) H fun b9 h H=>?_;refine cU (dD (mS (rs:=([]:List Nat)) (α:=Unit) [(s4,v3),(s5,v8)] (fun a=>[]) (fun σ=>()) (fun a q=>Sq w0 E R v8 v3  q) (fun σ=>trivial) (fun a1 d16 σ h H=>?_) ?_))
 · refine dC (cT (aT (vs:=[v8]) (by kernel_rfl) H fun dc h H=>?_));refine aT (vs:=[v3,dc]) (by kernel_rfl) H fun aq h H=>?_;refine cU (dD ?_);exact tc (P:=PP) (w0:=w0) KR.results Q (d16) (by kernel_rfl) (Eq.mp (by kernel_rfl) H)
 · refine n7 (Kz cq (rs:=([]:List Nat)) (α:=Unit) [(s2,v1),(s3,v2),(s4,v3),(s5,v8),(s6,v11)] (fun a=>[]) (fun σ=>()) (fun k a=>KQ w0 E R v11 v1 v2 v3 v8 (fun  q=>k ((),q)) a.2) (fun σ=>trivial) (fun Rr a2 d21 σ h H=>?_) (x:=()) (by kernel_rfl) (Eq.mp (by kernel_rfl) (And.intro (Eq.refl (v1:Z)) (And.intro (Eq.refl (v2:Z)) (And.intro (Eq.refl (v3:Z)) (And.intro (Eq.refl (v8:Z)) (And.intro (Eq.refl (v11:Z)) trivial)))))) H);refine mS (rs:=d21) (α:=Unit) [(s2,v1),(s3,v2),(s4,v3),(s5,v8),(s6,v11)] (fun a=>[]) (fun σ=>()) (fun a q=>Su w0 E R v11 v1 v2 v3 v8 (fun  q=>Rr ((),q))  q) (fun σ=>trivial) (fun a3 d22 σ h H=>?_) ?_
   · refine n7 (dC (cT (aT (vs:=[v11]) (by kernel_rfl) H fun fE h H=>?_)));refine aT (vs:=[v11]) (by kernel_rfl) H fun v24 h H=>?_;refine aT (vs:=[v24]) (by kernel_rfl) H fun ct h H=>?_;refine aT (vs:=[ct,vi 1]) (by kernel_rfl) H fun eN h H=>?_;refine aT (vs:=[fE,eN]) (by kernel_rfl) H fun dE h H=>?_;refine aT (vs:=[dE]) (by kernel_rfl) H fun v28 h H=>?_;refine aT (vs:=[]) (by kernel_rfl) H fun du h H=>?_;refine aT (vs:=[du,v28]) (by kernel_rfl) H fun v30 h H=>?_;refine cU (dD (dC (cT (aT (vs:=[v11]) (by kernel_rfl) H fun v31 h H=>?_))));refine aT (vs:=[v11]) (by kernel_rfl) H fun iR h H=>?_;refine aT (vs:=[iR]) (by kernel_rfl) H fun jA h H=>?_;refine aT (vs:=[jA,vi 1]) (by kernel_rfl) H fun eO h H=>?_;refine aT (vs:=[v31,eO]) (by kernel_rfl) H fun dM h H=>?_;refine aT (vs:=[v11,dM]) (by kernel_rfl) H fun ja h H=>?_;refine cU (dD (dC (cT (aT (vs:=[v1]) (by kernel_rfl) H fun v37 h H=>?_))));refine aT (vs:=[du]) (by kernel_rfl) H fun eT h H=>?_;refine ta (vs:=[v37,eT]) (by kernel_rfl) H (fun _ _ H=>oR (P:=PP) (w0:=w0) KR.results Q (d22) (by kernel_rfl) H) fun bh h H=>?_;refine cU (dD (n7 (Rs cq (rs:=d22) _ _ _ _ _ (fv:=bh) (by kernel_rfl) H (fun uN _ _ H=>oR (P:=PP) (w0:=w0) KR.results Q (uN::d22) (by kernel_rfl) H) (fun uN h H=>?_) (fun uN h H=>?_) (fun uN=>trivial) (fun wU YY wV z42 R h H=>?_))))
     · refine qR (qR ?_);exact Exists.intro (uN::d22) (Eq.mp (by kernel_rfl) (And.intro (Eq.refl (gn (uN::d22))) (And.intro (And.intro (Eq.refl (v1:Z)) (And.intro (Eq.refl (v2:Z)) (And.intro (Eq.refl (v3:Z)) (And.intro (Eq.refl (v8:Z)) (And.intro (Eq.refl (v11:Z)) trivial))))) H)))
     · exact tc (P:=PP) (w0:=w0) KR.results Q (uN::d22) (by kernel_rfl) (Eq.mp (by kernel_rfl) H)
     · obtain⟨fp,uM,rfl,H⟩:=Ru H
       let E:ZZF:=qd
       have H2:=Rv H;refine⟨H2.1,rfl,?_⟩;have H:=H2.2;refine dC (cT (eo (v:=fp) (by kernel_rfl) (cU (dD (cT (eo (v:=uM) (by kernel_rfl) (cU (Rw H (fun h H=>?_)))))))));refine n7 (Rx (α:=Unit) [(s5,v8),(s6,v11),(s8,fp)] (fun a=>[]) (fun σ=>()) (fun a=>Sr w0 E R v8 fp v11 wU wV) (fun σ=>trivial) (fun a4 σ h H=>?_) ?_)
       · refine dC (cT (aT (vs:=[v8]) (by kernel_rfl) H fun fo h H=>?_));refine eo (v:=fp) (by kernel_rfl) (aT (vs:=[fo,fp]) (by kernel_rfl) H fun v49 h H=>?_);refine aT (vs:=[v49]) (by kernel_rfl) H fun jz h H=>?_;refine aT (vs:=[jz]) (by kernel_rfl) H fun v51 h H=>?_;refine cU (dD (mT (v:=v51) (by kernel_rfl) H (fun H=>?_) (fun H=>?_)))
         · refine dC (cT (aT (vs:=[v8]) (by kernel_rfl) H fun bS h H=>?_));refine eo (v:=fp) (by kernel_rfl) (aT (vs:=[bS,fp]) (by kernel_rfl) H fun v53 h H=>?_);refine aT (vs:=[v53,.bool true]) (by kernel_rfl) H fun lb h H=>?_;refine cU (dD (cT (aT (vs:=[v11]) (by kernel_rfl) H fun cr h H=>?_)));refine eo (v:=fp) (by kernel_rfl) (aT (vs:=[fp]) (by kernel_rfl) H fun cG h H=>?_);refine aT (vs:=[cr,cG]) (by kernel_rfl) H fun dB h H=>?_;refine aT (vs:=[v11,dB]) (by kernel_rfl) H fun iG h H=>?_;refine cU (qR ?_);exact Eq.mp (by kernel_rfl) (And.intro (Eq.refl ([]:List iS)) H)
         · refine nA (qR ?_);exact Eq.mp (by kernel_rfl) (And.intro (Eq.refl ([]:List iS)) H)
       · refine dC (cT (aT (vs:=[v2]) (by kernel_rfl) H fun v59 h H=>?_));refine aT (vs:=[du]) (by kernel_rfl) H fun mQ h H=>?_;refine eo (v:=fp) (by kernel_rfl) (eo (v:=uM) (by kernel_rfl) (aud (vs:=[v59,mQ,fp,uM]) (by kernel_rfl) H (fun _ _ H=>False.elim H) fun cm h H=>?_));refine aT (vs:=[cm]) (by kernel_rfl) H fun nw h H=>?_;refine cU (dD (mT (v:=nw) (by kernel_rfl) H (fun H=>?_) (fun H=>?_)))
         · refine dC (cT (aT (vs:=[v3,bJ]) (by kernel_rfl) H fun iv h H=>?_));refine cU (dD ?_);exact Eq.mp (by kernel_rfl) (And.intro (Eq.refl ([]:List iS)) H)
         · refine nA ?_;exact Eq.mp (by kernel_rfl) (And.intro (Eq.refl (⟨[],.off⟩:DS)) (And.intro (And.intro (Eq.refl (v8:Z)) (And.intro (Eq.refl (v11:Z)) (And.intro (Eq.refl (fp:Z)) trivial))) H))
   · refine dC (cT (aT (vs:=[v11]) (by kernel_rfl) H fun lf h H=>?_));refine aT (vs:=[lf]) (by kernel_rfl) H fun bX h H=>?_;refine aT (vs:=[bX,vi 0]) (by kernel_rfl) H fun jI h H=>?_;refine cU (dD (mT (v:=jI) (by kernel_rfl) H (fun H=>?_) (fun H=>?_)))
     · refine nA ?_;exact Exists.intro (d21) (Eq.mp (by kernel_rfl) (And.intro (Eq.refl (gn (d21))) (And.intro (And.intro (Eq.refl (v1:Z)) (And.intro (Eq.refl (v2:Z)) (And.intro (Eq.refl (v3:Z)) (And.intro (Eq.refl (v8:Z)) (And.intro (Eq.refl (v11:Z)) trivial))))) H)))
     · exact Exists.intro (d21) (Eq.mp (by kernel_rfl) (And.intro (Eq.refl (gn (d21))) (And.intro (And.intro (Eq.refl (v3:Z)) (And.intro (Eq.refl (v8:Z)) trivial)) H)))
def aiT (w0:World) (E R:ZZF) (x0 x1 x2:Z):W:=R (.bool true)
theorem aue {w0 h Q}(x0 x1 x2:Z)(H:aiT w0 (fun v h=>Q (.bC v) h) (fun v h=>Q (.ret v) h) x0 x1 x2 h):WF PP w0 Sv [x0,x1,x2] h Q:=
 fm cq e79 [] (by kernel_rfl) (Eq.mp (by kernel_rfl) H)
def aaP (w0:World) (E R:ZZF) (v1:Z):W:=pr (.bZ 7) [v1] fun v2=>cl PP w0 aaO [v2,fc Sv] E fun v3=>R v3
def aiU (w0:World) (E R:ZZF) (x0:Z):W:=pr (.box 25) [x0] fun v1=>pr (.bZ 7) [v1] fun v4=>cl PP w0 Hp [v4] E fun v5=>pr .ed [v5] fun v6=>br v6 (R bJ) (aaP w0 E R v1)
theorem auf {w0 h Q}(x0:Z)(H:aiU w0 (fun v h=>Q (.bC v) h) (fun v h=>Q (.ret v) h) x0 h):WF PP w0 Sw [x0] h Q:=
 fm cq e28 [] (by kernel_rfl) (Eq.mp (by kernel_rfl) H)
def aaQ (w0:World) (E R:ZZF) (v2:Z):W:=R v2
def Sx (w0:World) (E R:ZZF) (dw:Z) (jc:ZZF):W:=pr (.aL .add) [dw,vi 1] fun lf=>jc lf
def aaR (w0:World) (E R:ZZF) (dw:Z) (jc:ZZF) (v109:Z):W:=br v109 (R (.bool false)) (Sx w0 E R dw jc)
def aaS (w0:World) (E R:ZZF) (aN bh dw aq:Z) (jc:ZZF) (ig:Z):W:=gd ig false (fun k=>pr (.fieldAddr 5) [aN] k) fun v93=>gd ig false (fun k=>pr .aB [v93] k) fun jb=>gd ig false (fun k=>k bh) fun kO=>gd ig false (fun k=>k dw) fun zV=>gd ig false (fun k=>pr (.cf 1) [kO,zV] k) fun mR=>gd ig false (fun k=>pr .aB [mR] k) fun EC=>gd ig false (fun k=>pr (.cf 4) [jb,EC] k) fun ED=>gd ig false (fun k=>pr (.fieldAddr 0) [ED] k) fun yb=>gd ig false (fun k=>pr .aB [yb] k) fun kN=>gd ig false (fun k=>pr (.fieldAddr 5) [aq] k) fun zU=>gd ig false (fun k=>pr .aB [zU] k) fun ya=>gd ig false (fun k=>k dw) fun z6=>gd ig false (fun k=>pr (.cf 4) [ya,z6] k) fun v105=>gd ig false (fun k=>pr (.fieldAddr 0) [v105] k) fun z7=>gd ig false (fun k=>pr .aB [z7] k) fun v107=>gd ig false (fun k=>pr (.aL .neq) [kN,v107] k) fun KL=>pr .pick [ig,.bool true,KL] fun v109=>aaR w0 E R dw jc v109
def aaT (w0:World) (E R:ZZF) (ie aN bh dw aq:Z) (jc:ZZF) (l7:Z):W:=gd l7 false (fun k=>k ie) fun sW=>gd l7 false (fun k=>pr .ed [sW] k) fun v91=>pr .pick [l7,.bool true,v91] fun ig=>aaS w0 E R aN bh dw aq jc ig
def aaU (w0:World) (E R:ZZF) (v59 dw bh cm v49 bS cG aN aq:Z) (jc:ZZF):W:=pr (.cf 1) [v59,dw] fun bX=>pr .aB [bX] fun jI=>pr (.cf 1) [bh,dw] fun mu=>pr .aB [mu] fun mw=>pr (.cf 1) [cm,mw] fun n5=>pr .aB [n5] fun v70=>cl PP w0 ZZ [jI,v70] E fun ie=>pr (.cf 1) [bh,dw] fun v72=>pr .aB [v72] fun eB=>pr (.cf 1) [v49,eB] fun iy=>pr .aB [iy] fun v75=>pr .ed [v75] fun v76=>gd v76 false (fun k=>k bS) fun rK=>gd v76 false (fun k=>k dw) fun oQ=>gd v76 false (fun k=>pr (.cf 1) [rK,oQ] k) fun my=>gd v76 false (fun k=>pr .aB [my] k) fun v80=>gd v76 false (fun k=>k cG) fun kL=>gd v76 false (fun k=>k bh) fun rM=>gd v76 false (fun k=>k dw) fun rN=>gd v76 false (fun k=>pr (.cf 1) [rM,rN] k) fun cI=>gd v76 false (fun k=>pr .aB [cI] k) fun v85=>gd v76 false (fun k=>pr (.cf 1) [kL,v85] k) fun kM=>gd v76 false (fun k=>pr .aB [kM] k) fun v87=>gd v76 false (fun k=>pr (.aL .neq) [v80,v87] k) fun l5=>pr .pick [v76,.bool true,l5] fun l7=>aaT w0 E R ie aN bh dw aq jc l7
def aaV (w0:World) (E R:ZZF) (v21 dw:Z) (jc:ZZF) (v59 bh cm v49 bS cG aN aq:Z):W:=pr (.cf 1) [v21,dw] fun pG=>pr .aB [pG] fun Ez=>pr .ed [Ez] fun Hm=>br Hm (Sx w0 E R dw jc) (aaU w0 E R v59 dw bh cm v49 bS cG aN aq jc)
def Sy (w0:World) (E R:ZZF) (aq v21 v59 bh cm v49 bS cG aN v2:Z) (jc:ZZF) (dw:Z):W:=pr (.fieldAddr 5) [aq] fun EA=>pr .aB [EA] fun EB=>pr .cb [EB] fun BX=>pr (.aL .lss) [dw,BX] fun zY=>br zY (aaV w0 E R v21 dw jc v59 bh cm v49 bS cG aN aq) (aaQ w0 E R v2)
def aaW (w0:World) (E R:ZZF) (aq v21 v59 bh cm v49 bS cG aN v2:Z):W:=LP (α:=Z) (fun k a=>Sy w0 E R aq v21 v59 bh cm v49 bS cG aN v2 k a) ((vi 0))
def aaX (w0:World) (E R:ZZF) (aq v21 v59 bh cm v49 bS cG aN v2 tg:Z):W:=br tg (R (.bool false)) (aaW w0 E R aq v21 v59 bh cm v49 bS cG aN v2)
def aaY (w0:World) (E R:ZZF) (cm aN aq v21 v59 bh v49 bS cG v2 v130:Z):W:=gd v130 false (fun k=>k cm) fun v131=>gd v130 false (fun k=>pr .cb [v131] k) fun EF=>gd v130 false (fun k=>pr (.fieldAddr 5) [aN] k) fun Hn=>gd v130 false (fun k=>pr .aB [Hn] k) fun nC=>gd v130 false (fun k=>pr .cb [nC] k) fun KD=>gd v130 false (fun k=>pr (.aL .neq) [EF,KD] k) fun EG=>pr .pick [v130,.bool true,EG] fun tg=>aaX w0 E R aq v21 v59 bh cm v49 bS cG aN v2 tg
def aaZ (w0:World) (E R:ZZF) (v49 aN cm aq v21 v59 bh bS cG v2 nB:Z):W:=gd nB false (fun k=>k v49) fun v124=>gd nB false (fun k=>pr .cb [v124] k) fun EE=>gd nB false (fun k=>pr (.fieldAddr 5) [aN] k) fun qS=>gd nB false (fun k=>pr .aB [qS] k) fun v127=>gd nB false (fun k=>pr .cb [v127] k) fun BZ=>gd nB false (fun k=>pr (.aL .neq) [EE,BZ] k) fun uJ=>pr .pick [nB,.bool true,uJ] fun v130=>aaY w0 E R cm aN aq v21 v59 bh v49 bS cG v2 v130
def aa0 (w0:World) (E R:ZZF) (dB v49 aN cm aq v21 v59 bh bS cG v2 qf:Z):W:=gd qf false (fun k=>k dB) fun z8=>gd qf false (fun k=>pr (.aL .neq) [z8,vi 0] k) fun tf=>pr .pick [qf,.bool true,tf] fun nB=>aaZ w0 E R v49 aN cm aq v21 v59 bh bS cG v2 nB
def aa1 (w0:World) (E R:ZZF) (v1 aN aq v21 bh v2:Z):W:=pr (.bZ 5) [v1] fun gY=>pr (.bZ 7) [aN] fun iF=>cl PP w0 RR [gY,iF] E fun gZ=>pr (.extract 0) [gZ] fun v46=>pr (.extract 1) [gZ] fun dP=>pr (.bZ 7) [aN] fun fo=>cl PP w0 Sw [fo] E fun v49=>pr (.bZ 7) [aq] fun jz=>cl PP w0 RY [jz] E fun v51=>pr (.extract 0) [v51] fun bS=>pr (.extract 1) [v51] fun v53=>pr (.bZ 7) [aN] fun lb=>cl PP w0 RY [lb] E fun cr=>pr (.extract 0) [cr] fun cG=>pr (.extract 1) [cr] fun dB=>pr (.bZ 7) [aq] fun iG=>cl PP w0 Sj [iG] E fun v59=>pr (.bZ 7) [aN] fun mQ=>cl PP w0 Sj [mQ] E fun cm=>pr (.aL .neq) [v46,vi 0] fun v117=>gd v117 false (fun k=>k v53) fun zZ=>gd v117 false (fun k=>pr (.aL .neq) [zZ,vi 0] k) fun rR=>pr .pick [v117,.bool true,rR] fun qf=>aa0 w0 E R dB v49 aN cm aq v21 v59 bh bS cG v2 qf
def aa2 (w0:World) (E R:ZZF) (v1 aN aq v21 bh v2 v145:Z):W:=br v145 (R (.bool false)) (aa1 w0 E R v1 aN aq v21 bh v2)
def aa3 (w0:World) (E R:ZZF) (aq v21 v1 v2:Z):W:=pr (.bZ 7) [aq] fun ja=>cl PP w0 R8 [ja,v21] E fun v37=>pr (.extract 0) [v37] fun eT=>pr (.extract 1) [v37] fun bh=>pr (.extract 2) [v37] fun v40=>pr (.alloc 25 [(bs []),(bs []),vi 0,vi 0,vi 0,bJ,bJ]) [] fun aN=>pr (.store 7) [aN,eT] fun gK=>pr (.aL .neq) [v40,vi 0] fun v138=>gd v138 false (fun k=>k bh) fun v139=>gd v138 false (fun k=>pr .cb [v139] k) fun KE=>gd v138 false (fun k=>pr (.fieldAddr 5) [aq] k) fun v141=>gd v138 false (fun k=>pr .aB [v141] k) fun KF=>gd v138 false (fun k=>pr .cb [KF] k) fun v143=>gd v138 false (fun k=>pr (.aL .neq) [KE,v143] k) fun KG=>pr .pick [v138,.bool true,KG] fun v145=>aa2 w0 E R v1 aN aq v21 bh v2 v145
def aa4 (w0:World) (E R:ZZF) (aq v21 v2 v1:Z):W:=pr (.fieldAddr 5) [aq] fun v146=>pr .aB [v146] fun KH=>pr .cb [KH] fun v148=>pr (.aL .sub) [v148,vi 1] fun Y1=>pr (.cf 1) [v21,Y1] fun Y2=>pr .aB [Y2] fun Y3=>pr .ed [Y3] fun v152=>br v152 (R v2) (aa3 w0 E R aq v21 v1 v2)
def aa5 (w0:World) (E R:ZZF) (aq v21 v2 v1 yc:Z):W:=br yc (R (.bool false)) (aa4 w0 E R aq v21 v2 v1)
def aa6 (w0:World) (E R:ZZF) (aq ct v21 v2 v1:Z):W:=pr (.bZ 7) [aq] fun eN=>cl PP w0 R8 [eN,ct] E fun dE=>pr (.extract 0) [dE] fun v28=>pr (.extract 1) [dE] fun du=>pr (.extract 2) [dE] fun v30=>pr (.alloc 25 [(bs []),(bs []),vi 0,vi 0,vi 0,bJ,bJ]) [] fun v31=>pr (.store 7) [v31,v28] fun iR=>pr (.bZ 7) [v31] fun jA=>pr (.bZ 7) [aq] fun eO=>cl PP w0 aay [jA,eO] E fun dM=>pr (.aL .neq) [v30,vi 0] fun vz=>gd vz false (fun k=>k dM) fun v154=>gd vz false (fun k=>pr .ed [v154] k) fun Y4=>pr .pick [vz,.bool true,Y4] fun yc=>aa5 w0 E R aq v21 v2 v1 yc
def aa7 (w0:World) (E R:ZZF) (iT:Z) (tn:ZZF):W:=pr (.aL .add) [iT,vi 1] fun v159=>tn v159
def aa8 (w0:World) (E R:ZZF) (ct iT:Z) (tn:ZZF):W:=pr (.cf 1) [ct,iT] fun v160=>pr (.store 1) [v160,.bool true] fun RQ=>aa7 w0 E R iT tn
def Sz (w0:World) (E R:ZZF) (ct aq v21 v2 v1:Z) (tn:ZZF) (iT:Z):W:=pr .cb [ct] fun v162=>pr (.aL .lss) [iT,v162] fun KI=>br KI (aa8 w0 E R ct iT tn) (aa6 w0 E R aq ct v21 v2 v1)
def aa9 (w0:World) (E R:ZZF) (v1 x1 v2:Z):W:=pr (.fieldAddr 2) [v1] fun v9=>pr .aB [v9] fun v10=>pr (.conv .i64) [x1] fun v11=>pr (.fieldAddr 2) [v1] fun v12=>pr .aB [v12] fun bW=>pr .cb [bW] fun cD=>pr (.aL .rem) [v11,cD] fun b9=>pr (.cf 7) [v10,b9] fun dr=>pr (.bZ 7) [dr] fun dc=>pr (.alloc 25 [(bs []),(bs []),vi 0,vi 0,vi 0,bJ,bJ]) [] fun aq=>pr (.store 7) [aq,dc] fun dS=>pr (.bZ 7) [aq] fun v20=>cl PP w0 Sw [v20] E fun v21=>pr (.fieldAddr 5) [aq] fun gX=>pr .aB [gX] fun fE=>pr .cb [fE] fun v24=>pr (.mkSlice 4 1 [.bool false]) [v24,v24] fun ct=>LP (α:=Z) (fun k a=>Sz w0 E R ct aq v21 v2 v1 k a) ((vi 0))
def aba (w0:World) (E R:ZZF) (v1 v2 x1:Z):W:=pr (.bZ 5) [v1] fun v3=>cl PP w0 Zu [v3] E fun v4=>pr (.extract 0) [v4] fun v5=>pr (.extract 1) [v4] fun v6=>pr (.alloc 60 [vi 0,vi 0]) [] fun v7=>pr (.store 2) [v7,v6] fun v8=>pr (.aL .neq) [v5,vi 0] fun v164=>br v164 (R v2) (aa9 w0 E R v1 x1 v2)
def aiV (w0:World) (E R:ZZF) (x0 x1:Z):W:=pr (.box 51) [x0] fun v1=>cl PP w0 abb [] E fun v2=>pr (.bZ 5) [v1] fun KJ=>cl PP w0 aaN [KJ] E fun uK=>pr .ed [uK] fun v167=>br v167 (R v2) (aba w0 E R v1 v2 x1)
theorem aug {w0 h Q}(x0 x1:Z)(H:aiV w0 (fun v h=>Q (.bC v) h) (fun v h=>Q (.ret v) h) x0 x1 h):WF PP w0 aiW [x0,x1] h Q:=
 fm cq e6 [[pH],[rX]] (by kernel_rfl) (Eq.mp (by kernel_rfl) H)
end
end Go.Ve.T
namespace Go.Ve
open Go.RowKit
open Classical
noncomputable section
structure Sub (g h:AH):Prop where
 nx:g.nx≤h.nx
 get:∀f x,g.ob.get f=some x→h.ob.get f=some x
theorem Sub.refl (g:AH):Sub g g:=⟨zad _,fun _ _ h=>h⟩
theorem Sub.trans {a b c}(h1:Sub a b)(h2:Sub b c):Sub a c:=⟨zay h1.nx h2.nx,fun f x h=>h2.get f x (h1.get f x h)⟩
theorem Sub.rd {g h}(S:Sub g h){b o:Nat}{v:Z}(hr:g.rd b o=some v):h.rd b o=some v:=by
 unfold AH.rd at hr ⊢;cases hg:g.ob.get b with
 | none=>rw [hg]at hr;cases hr
 | some x=>rw [S.get b x hg];rw [hg]at hr;exact hr
theorem Sub.bH {g h}(S:Sub g h){b o:Nat}{l:ZZE}(hr:g.bH b o l):h.bH b o l:=fun i v hv=>S.rd (hr i v hv)
def aw {α β:Type}(R:α→β→Prop) (l:List α) (m:List β):Prop:=l.length=m.length∧∀(i:Nat) x y,l[i]? =some x→m[i]? =some y→R x y
section
variable {α β:Type}{R R':α→β→Prop}{l l2:List α}{m m2:List β}
theorem aw.nil:aw R [] []:=⟨rfl,fun i x y h=>by simp at h⟩
theorem aw.mono (H:aw R l m)(hm:∀x y,R x y→R' x y):aw R' l m:=⟨H.1,fun i x y h1 h2=>hm x y (H.2 i x y h1 h2)⟩
theorem aw.get (H:aw R l m){i:Nat}{y:β}(hy:m[i]? =some y):∃x,l[i]? =some x∧R x y:=by
 have hi:i<m.length:=(List.getElem?_eq_some_iff.1 hy).1;have hl:i<l.length:=by rw [H.1];exact hi
 exact⟨l[i],zab hl,H.2 i _ _ (zab hl) hy⟩
theorem aw.append (H:aw R l m)(H2:aw R l2 m2):aw R (l++l2) (m++m2):=by
 refine⟨by simp [H.1,H2.1],fun i x y hx hy=>?_⟩
 by_cases hi:i<l.length
 · rw [zaC hi]at hx;rw [zaC (by rw [←H.1];exact hi)]at hy;exact H.2 i x y hx hy
 · rw [zaB (by omega)]at hx;rw [zaB (by rw [←H.1];omega),←H.1]at hy;exact H2.2 _ x y hx hy
theorem aw.one {x y}(h:R x y):aw R [x] [y]:=⟨rfl,fun i a b ha hb=>by
 cases i with
 | zero=>simp at ha hb;subst ha;subst hb;exact h
 | succ i=>simp at ha⟩
theorem aw.push {x y}(H:aw R l m)(h:R x y):aw R (l++[x]) (m++[y]):=H.append (.one h)
theorem aw.set {x y}(H:aw R l m)(h:R x y)(i:Nat):aw R (l.set i x) (m.set i y):=by
 refine⟨by simp [H.1],fun j a b ha hb=>?_⟩;rw [zaX]at ha hb
 by_cases e:i=j
 · subst e;rw [if_pos rfl]at ha hb;split at ha
   · cases ha;split at hb
     · cases hb;exact h
     · cases hb
   · cases ha
 · rw [if_neg e]at ha hb;exact H.2 j a b ha hb
theorem aw.take (H:aw R l m)(n:Nat):aw R (l.take n) (m.take n):=⟨by simp [H.1],fun i x y hx hy=>by
 rw [List.getElem?_take]at hx hy;split at hx
 · rename_i hi;rw [if_pos hi]at hy;exact H.2 i x y hx hy
 · cases hx⟩
theorem aw.drop (H:aw R l m)(n:Nat):aw R (l.drop n) (m.drop n):=⟨by simp [H.1],fun i x y hx hy=>by
 rw [List.getElem?_drop]at hx hy;exact H.2 _ x y hx hy⟩
theorem aw.I8 {x y}(h:R x y):∀n,aw R (List.replicate n x) (List.replicate n y)
 | 0=>.nil
 | n+1=>⟨by simp,fun i a b ha hb=>by
  have h1:=zat ha;have h2:=zat hb;rw [(List.mem_replicate.1 h1).2,(List.mem_replicate.1 h2).2];exact h⟩
end
def ix {α:Type}(l:List α):Int→Option α | .ofNat n=>l[n]? | .negSucc _=>none
theorem gG {α}(l:List α)(n:Nat):ix l (n:Int)=l[n]? :=rfl
theorem Bf {α:Type}{l:List α}{n:Int}{x:α}(h:ix l n=some x):∃i:Nat,n=i∧i<l.length∧l[i]? =some x:=by
 cases n with
 | ofNat i=>exact⟨i,rfl,(List.getElem?_eq_some_iff.1 h).1,h⟩
 | negSucc i=>cases h
theorem bind_some {α β:Type}{o:Option α}{f:α→Option β}{r:β}(h:o.bind f=some r):∃x,o=some x∧f x=some r:=by
 cases o with
 | none=>cases h
 | some x=>exact⟨x,rfl,h⟩
theorem aV {α:Type}{c:Bool}{a b r:α}(hc:c=true)(h:(bif c then a else b)=r):a=r:=by subst hc;exact h
theorem aX {α:Type}{c:Bool}{a b r:α}(hc:c=false)(h:(bif c then a else b)=r):b=r:=by subst hc;exact h
def gu {α:Type}(c:Bool) (k:Option α):Option α:=bif c then k else none
theorem nE {α:Type}{c:Bool}{k:Option α}{r:α}(h:gu c k=some r):c=true∧k=some r:=by
 cases c with
 | false=>cases h
 | true=>exact⟨rfl,h⟩
abbrev iW (α:Type):=AH→ZZE→α→Prop
def vh {α:Type}(rep:iW α):Prop:=∀g g' vs x,Sub g g'→rep g vs x→rep g' vs x
def aeu (sz n cap:Nat):Prop:=n<bQ∧((n≤cap∧cap<bQ)∨cap=bQ+sz)
inductive jJ (g:AH) (sz:Nat):Z→List (ZZE)→Prop where
 | nil:jJ g sz bJ []
 | mk (b o n cap:Nat) (ls:List (ZZE)) (hn:n=ls.length) (hc:aeu sz n cap) (hs:∀x∈ls,x.length=sz) (hr:g.bH b o ls.flatten):jJ g sz (gD b o n cap) ls
theorem jJ.mono {g g' sz v ls}(S:Sub g g')(H:jJ g sz v ls):jJ g' sz v ls:=by
 cases H with
 | nil=>exact .nil
 | mk b o n cap ls hn hc hs hr=>exact .mk b o n cap ls hn hc hs (S.bH hr)
def aa {α:Type}(rep:iW α) (sz:Nat) (g:AH) (v:Z) (l:List α):Prop:=∃ls,jJ g sz v ls∧aw (rep g) ls l
theorem aa.mono {α:Type}{rep:iW α}{sz:Nat}{g g':AH}{v:Z}{l:List α}(H:aa rep sz g v l)(hm:vh rep)(S:Sub g g'):aa rep sz g' v l:=by
 obtain⟨ls,h1,h2⟩:=H;exact⟨ls,h1.mono S,h2.mono fun x y h=>hm _ _ _ _ S h⟩
theorem aa.nil {α:Type}{rep:iW α}{sz:Nat}{g:AH}:aa rep sz g bJ []:=⟨[],.nil,.nil⟩
theorem jJ.one {g sz v ls}(H:jJ g sz v ls):iA v=true:=by cases H<;>rfl
theorem aa.one {α:Type}{rep:iW α}{sz:Nat}{g:AH}{v:Z}{l:List α}(H:aa rep sz g v l):iA v=true:=by obtain⟨ls,h1,_⟩:=H;exact h1.one
def rI (k:IntKind):iW Int:=fun _ vs x=>vs=[.int k x]
def rB:iW Bool:=fun _ vs x=>vs=[.bool x]
def rS:iW ByteArray:=fun _ vs x=>vs=[.string x]
def rL {α:Type}(rep:iW α) (sz:Nat):iW (List α):=fun g vs x=>∃v,vs=[v]∧aa rep sz g v x
theorem eD (k:IntKind):vh (rI k):=fun _ _ _ _ _ h=>h
theorem lS:vh rB:=fun _ _ _ _ _ h=>h
theorem Ns {α:Type}{rep:iW α}{sz:Nat}(hm:vh rep):vh (rL rep sz):=fun _ _ _ _ S ⟨v,h1,h2⟩=>⟨v,h1,h2.mono hm S⟩
theorem xq {sz}:∀{l:List (ZZE)},(∀x∈l,x.length=sz)→l.flatten.length=l.length*sz
 | [],_=>by simp
 | x::l,hs=>by
  rw [zaN,zaG,hs x zai,xq fun y hy=>hs y (zaj _ hy),zaE,zaR];omega
theorem Vc {sz}:∀{l:List (ZZE)}(n:Nat),(∀x∈l,x.length=sz)→(l.drop n).flatten=l.flatten.drop (n*sz)
 | [],n,_=>by simp
 | x::l,0,_=>by simp
 | x::l,n+1,hs=>by
  rw [List.drop_succ_cons,zaN,Vc n fun y hy=>hs y (zaj _ hy),List.drop_append,List.drop_of_length_le (l:=x) (by rw [hs x zai,zaR];omega),zaU,hs x zai]
  congr 1
  rw [zaR];omega
theorem Vd {sz}:∀{l:List (ZZE)}(n:Nat),(∀x∈l,x.length=sz)→(l.take n).flatten=l.flatten.take (n*sz)
 | [],n,_=>by simp
 | x::l,0,_=>by simp
 | x::l,n+1,hs=>by
  rw [List.take_succ_cons,zaN,zaN,Vd n fun y hy=>hs y (zaj _ hy),List.take_append,hs x zai,List.take_of_length_le (show x.length≤(n+1)*sz by rw [hs x zai,zaR];omega)]
  congr 2
  rw [zaR];omega
theorem aot {sz}:∀{l:List (ZZE)}{i:Nat}{y:ZZE},(∀x∈l,x.length=sz)→y.length=sz→i<l.length→∀j,(l.set i y).flatten[j]? =if i*sz≤j∧j<i*sz+sz then y[j-i*sz]? else l.flatten[j]?
 | [],i,y,_,_,h,j=>by simp at h
 | x::l,0,y,hs,hy,_,j=>by
  have hx:=hs x zai;rw [List.set_cons_zero,zaN,zaN,Nat.zero_mul,zav]
  by_cases hj:j<sz
  · rw [if_pos ⟨zaz _,hj⟩,zaC (by omega)];rfl
  · rw [if_neg (fun h=>hj h.2),zaB (by omega),zaB (by omega),hx,hy]
 | x::l,i+1,y,hs,hy,hi,j=>by
  have hx:=hs x zai;rw [List.set_cons_succ,zaN,zaN];have e:(i+1)*sz=i*sz+sz:=by rw [zaR];omega
  by_cases hj:j<sz
  · rw [zaC (by omega),if_neg (by omega),zaC (by omega)]
  · rw [zaB (by omega),zaB (by omega),aot (fun z hz=>hs z (zaj _ hz)) hy (by simpa using hi),hx,e]
    by_cases h2:i*sz≤j-sz∧j-sz<i*sz+sz
    · rw [if_pos h2,if_pos (by omega)];congr 1;omega
    · rw [if_neg h2,if_neg (by omega)]
theorem Vf {h:AH}{b o:Nat}{l:ZZE}(n:Nat)(H:h.bH b o l):h.bH b o (l.take n):=fun i v hv=>H i v (by
 rw [List.getElem?_take]at hv;split at hv
 · exact hv
 · cases hv)
theorem Vg {h:AH}{b o:Nat}{l:ZZE}(n:Nat)(H:h.bH b o l):h.bH b (o+n) (l.drop n):=fun i v hv=>by
 rw [List.getElem?_drop]at hv;have:=H (n+i) v hv
 rwa [show o+n+i=o+(n+i) by omega]
inductive iu (h:AH) (ty:TypeId) (sz:Nat):Z→List (ZZE)→Prop where
 | nil:iu h ty sz bJ []
 | un (b o n lo hi:Nat) (c:NT Z) (ls:List (ZZE)) (hn:n=ls.length) (hb:n<bQ) (hg:h.ob.get b=some (.cells lo hi ty true c)) (h1:lo≤o) (h2:o+n*sz≤hi) (hr:h.bH b o ls.flatten) (hs:∀x∈ls,x.length=sz):iu h ty sz (gD b o n (bQ+sz)) ls
 | kn (b o n cap lo hi:Nat) (dY:TypeId) (c:NT Z) (ls:List (ZZE)) (hn:n=ls.length) (hb:n≤cap) (hc:cap<bQ) (hg:h.ob.get b=some (.cells lo hi dY true c)) (h1:lo≤o) (h2:o+cap*sz≤hi) (hr:h.bH b o ls.flatten) (hs:∀x∈ls,x.length=sz):iu h ty sz (gD b o n cap) ls
def iP:Z→List Nat | .slice (some a) _ _=>[a.block] | _=>[]
theorem iu.one {h ty sz v ls}(H:iu h ty sz v ls):iA v=true:=by cases H<;>rfl
theorem iu.read {h ty sz v ls}(H:iu h ty sz v ls):jJ h sz v ls:=by
 cases H with
 | nil=>exact .nil
 | un b o n lo hi c ls hn hb hg h1 h2 hr hs=>exact .mk b o n _ ls hn ⟨hb,.inr rfl⟩ hs hr
 | kn b o n cap lo hi dY c ls hn hb hc hg h1 h2 hr hs=>exact .mk b o n cap ls hn ⟨by omega,.inl ⟨hb,hc⟩⟩ hs hr
theorem Ga {h h':AH}{b o:Nat}{l:ZZE}(e:h'.ob.get b=h.ob.get b)(H:h.bH b o l):h'.bH b o l:=fun i v hv=>by
 have:=H i v hv;unfold AH.rd at this ⊢;rw [e];exact this
theorem iu.Nx {h h':AH}{ty:TypeId}{sz:Nat}{v:Z}{ls:List (ZZE)}(H:iu h ty sz v ls)(e:∀b∈iP v,h'.ob.get b=h.ob.get b):iu h' ty sz v ls:=by
 cases H with
 | nil=>exact .nil
 | un b o n lo hi c ls hn hb hg h1 h2 hr hs=>
  have e:=e b (by simp [iP]);exact .un b o n lo hi c ls hn hb (e.trans hg) h1 h2 (Ga e hr) hs
 | kn b o n cap lo hi dY c ls hn hb hc hg h1 h2 hr hs=>
  have e:=e b (by simp [iP]);exact .kn b o n cap lo hi dY c ls hn hb hc (e.trans hg) h1 h2 (Ga e hr) hs
inductive Ob where
 | bx (b:Nat) (l:ZZE)
 | sl (ty:TypeId) (sz:Nat) (v:Z) (ls:List (ZZE))
 | lp (n:Nat) (lo:LO) (st:LoopState) (pd:Option Code)
 | ds (d:List Nat)
 | mp (b:Nat) (es:List (Z×Z×Nat)) (cl:Nat)
 | raw (b:Nat) (a:AO)
def Ob.cS:Ob→List Nat | .bx b _=>[b] | .sl _ _ v _=>iP v | .lp n _ _ _=>[n] | .ds d=>d | .mp b _ _=>[b] | .raw b _=>[b]
def Ob.ok (h:AH):Ob→Prop | .bx b l=>h.bH b 0 l∧h.can b 0 l.length | .sl ty sz v ls=>iu h ty sz v ls | .lp n lo st pd=>h.ob.get n=some (lo st pd) | .ds d=>∀r∈d,h.ob.get r=some (.defs false) | .mp b es cl=>h.ob.get b=some (.map es cl) | .raw b a=>h.ob.get b=some a
theorem aAW {h h':AH}{b o n:Nat}(e:h'.ob.get b=h.ob.get b)(H:h.can b o n):h'.can b o n:=by
 obtain⟨lo,hi,ty,c,h1,h2,h3⟩:=H;exact⟨lo,hi,ty,c,e.trans h1,h2,h3⟩
theorem Ob.Nx {h h':AH}{o:Ob}(H:o.ok h)(e:∀b∈o.cS,h'.ob.get b=h.ob.get b):o.ok h':=by
 cases o with
 | bx b l=>
  have e:=e b (by simp [Ob.cS]);exact⟨Ga e H.1,aAW e H.2⟩
 | sl ty sz v ls=>exact iu.Nx H e
 | lp n lo st pd=>exact(e n (by simp [Ob.cS])).trans H
 | ds d=>exact fun r hr=>(e r hr).trans (H r hr)
 | mp b es cl=>exact(e b (by simp [Ob.cS])).trans H
 | raw b a=>exact(e b (by simp [Ob.cS])).trans H
structure Cx where
 g:AH
 h:AH
 C:List Nat
structure Sep (c:Cx) (g h:AH) (Γ:List Ob):Prop where
 bF:Sub c.g g
 sub:Sub g h
 ok:h.Ok
 nx:c.h.nx≤h.nx
 old:∀f,f<c.h.nx→f∉c.C→h.ob.get f=c.h.ob.get f∧(c.g.ob.get f=none→g.ob.get f=none)
 hZ:∀o∈Γ,o.ok h
 nd:(Γ.flatMap Ob.cS).Nodup
 own:∀b∈Γ.flatMap Ob.cS,b<h.nx∧g.ob.get b=none∧(c.h.nx≤b∨b∈c.C)
section
variable {c:Cx}{g h h' g':AH}{Γ Γ':List Ob}{o:Ob}
theorem Sep.start (S:Sub g h)(ok:h.Ok):Sep ⟨g,h,[]⟩ g h []:=⟨.refl _,S,ok,zad _,fun f _ _=>⟨rfl,id⟩,fun o ho=>by simp at ho,by simp,fun b hb=>by simp at hb⟩
theorem Sep.perm (S:Sep c g h Γ)(p:Γ'.Perm Γ):Sep c g h Γ':=
 have pf:(Γ'.flatMap Ob.cS).Perm (Γ.flatMap Ob.cS):=p.flatMap_right _
 ⟨S.bF,S.sub,S.ok,S.nx,S.old,fun o ho=>S.hZ o (p.mem_iff.1 ho),pf.nodup_iff.2 S.nd,fun b hb=>S.own b (pf.mem_iff.1 hb)⟩
theorem aou {α}:∀{l:List α}{i:Nat}{x:α},l[i]? =some x→(x::l.eraseIdx i).Perm l
 | [],i,x,h=>by simp at h
 | y::l,0,x,h=>by simp at h;subst h;exact .refl _
 | y::l,i+1,x,h=>by
  have:=aou (l:=l) (i:=i) (x:=x) (by simpa using h);exact(List.Perm.swap y x _).trans (this.cons y)
theorem Sep.front (S:Sep c g h Γ)(i:Nat)(hi:Γ[i]? =some o)(e:Γ.eraseIdx i=Γ'):Sep c g h (o::Γ'):=e▸S.perm (aou hi)
theorem Sep.drop (S:Sep c g h (o::Γ)):Sep c g h Γ:=
 ⟨S.bF,S.sub,S.ok,S.nx,S.old,fun x hx=>S.hZ x (zaj _ hx),by have:=S.nd;rw [zaA]at this;exact(List.nodup_append.1 this).2.1,fun b hb=>S.own b (by rw [zaA];exact zbq _ hb)⟩
theorem Sep.bO (S:Sep c g h Γ):Sep c g h []:=
 ⟨S.bF,S.sub,S.ok,S.nx,S.old,fun x hx=>by simp at hx,by simp,fun b hb=>by simp at hb⟩
theorem Sep.apart (S:Sep c g h (o::Γ)){b:Nat}(hb:b∈o.cS):b∉Γ.flatMap Ob.cS:=fun dN=>by
 have:=S.nd;rw [zaA]at this;exact(List.nodup_append.1 this).2.2 b hb b dN rfl
theorem Sep.change (S:Sep c g h (o::Γ)) (o':Ob) (pS:h'.Ok) (yA:h.nx≤h'.nx) (bt:∀f,f<h.nx→f∉o.cS→h'.ob.get f=h.ob.get f) (ho:o'.ok h') (vj:o'.cS.Nodup)
 (hb:∀b∈o'.cS,b<h'.nx∧(h.nx≤b∨b∈o.cS)):Sep c g h' (o'::Γ):=by
 have own:=fun b hb=>S.own b (show b∈(o::Γ).flatMap Ob.cS from hb)
 have aev:∀b∈o.cS,b<h.nx∧g.ob.get b=none∧(c.h.nx≤b∨b∈c.C):=fun b hb=>own b (by rw [List.flatMap_cons];exact List.mem_append_left _ hb)
 have aAX:∀f,h.nx≤f→g.ob.get f=none:=fun f hf=>by
  cases hg:g.ob.get f with
  | none=>rfl
  | some x=>have:=S.sub.get f x hg;rw [S.ok f hf]at this;cases this
 refine⟨S.bF,⟨Nat.le_trans S.sub.nx yA,fun f x hx=>?_⟩,pS,Nat.le_trans S.nx yA,fun f hf hc=>?_,fun x hx=>?_,?_,fun b dN=>?_⟩
 · have h1:=S.sub.get f x hx;have cy:f<h.nx:=AH.lt_of_get S.ok h1;rw [bt f cy (fun hm=>by rw [(aev f hm).2.1]at hx;cases hx)];exact h1
 · obtain⟨h1,h2⟩:=S.old f hf hc;refine⟨?_,h2⟩;rw [bt f (Nat.lt_of_lt_of_le hf S.nx) (fun hm=>by exact(aev f hm).2.2.elim (fun h3=>by omega) hc)];exact h1
 · rcases List.mem_cons.1 hx with rfl | hx
   · exact ho
   · refine Ob.Nx (S.hZ x (List.mem_cons_of_mem _ hx)) fun b qn=>?_;have hm:b∈Γ.flatMap Ob.cS:=List.mem_flatMap.2 ⟨x,hx,qn⟩;have cy:=(own b (by rw [List.flatMap_cons];exact List.mem_append_right _ hm)).1;exact bt b cy fun Fb=>S.apart Fb hm
 · rw [List.flatMap_cons];refine List.nodup_append.2 ⟨vj,S.drop.nd,fun a ha b qn e=>?_⟩;subst e;rcases(hb a ha).2 with h1 | h1
   · have:=(S.drop.own a qn).1;omega
   · exact S.apart h1 qn
 · rw [List.flatMap_cons]at dN;rcases List.mem_append.1 dN with h1 | h1
   · obtain⟨h2,h3⟩:=hb b h1;refine⟨h2,?_⟩;rcases h3 with h3 | h3
     · exact⟨aAX b h3,.inl (Nat.le_trans S.nx h3)⟩
     · exact(aev b h3).2
   · obtain⟨h2,h3⟩:=S.drop.own b h1;exact⟨by omega,h3⟩
theorem Sep.add (S:Sep c g h Γ)(o':Ob)(pS:h'.Ok)(yA:h.nx≤h'.nx)(bt:∀f,f<h.nx→h'.ob.get f=h.ob.get f)(ho:o'.ok h')(vj:o'.cS.Nodup)(hb:∀b∈o'.cS,b<h'.nx∧h.nx≤b):Sep c g h' (o'::Γ):=by
 have S0:Sep c g h (.sl 0 0 bJ []::Γ):=⟨S.bF,S.sub,S.ok,S.nx,S.old,fun x hx=>by
  rcases List.mem_cons.1 hx with rfl | hx
  · exact iu.nil
  · exact S.hZ x hx,by rw [zaA];exact S.nd,fun b hb=>S.own b (by rw [zaA]at hb;exact hb)⟩
 exact S0.change o' pS yA (fun f hf _=>bt f hf) ho vj fun b dN=>⟨(hb b dN).1,.inl (hb b dN).2⟩
theorem Sep.B1 (S:Sep c g h Γ)(ty:TypeId)(sz:Nat):Sep c g h (.sl ty sz bJ []::Γ):=S.add _ S.ok (zad _) (fun _ _=>rfl) iu.nil (by simp [Ob.cS,iP]) (fun b hb=>by simp [Ob.cS,iP]at hb)
theorem Sep.bt (S:Sep c g h Γ)(K:eK h h')(pS:h'.Ok):Sep c g h' Γ:=
 (Sep.add S (.sl 0 0 bJ []) pS K.nx K.get iu.nil (by simp [Ob.cS,iP]) (fun b hb=>by simp [Ob.cS,iP]at hb)).drop
theorem Sep.call {Γ1:List Ob}(S:Sep c g h Γ)(S':Sep ⟨g,h,[]⟩ g' h' Γ1):Sep c g' h' (Γ1++Γ):=by
 have aov:∀b∈Γ1.flatMap Ob.cS,b<h'.nx∧g'.ob.get b=none∧h.nx≤b:=fun b hb=>by
  obtain⟨h1,h2,h3⟩:=S'.own b hb;refine⟨h1,h2,?_⟩;rcases h3 with h3 | h3
  · exact h3
  · simp at h3
 have aew:∀f,f<h.nx→h'.ob.get f=h.ob.get f∧(g.ob.get f=none→g'.ob.get f=none):=fun f hf=>S'.old f hf (by simp)
 refine⟨S.bF.trans S'.bF,S'.sub,S'.ok,zay S.nx S'.nx,fun f hf hc=>?_,fun x hx=>?_,?_,fun b hb=>?_⟩
 · obtain⟨h1,h2⟩:=S.old f hf hc;obtain⟨h3,h4⟩:=aew f (za1 hf S.nx);exact⟨h3.trans h1,fun hn=>h4 (h2 hn)⟩
 · rcases List.mem_append.1 hx with hx | hx
   · exact S'.hZ x hx
   · refine Ob.Nx (S.hZ x hx) fun b hb=>?_;exact(aew b (S.own b (List.mem_flatMap.2 ⟨x,hx,hb⟩)).1).1
 · rw [List.flatMap_append];refine List.nodup_append.2 ⟨S'.nd,S.nd,fun a ha b hb e=>?_⟩;subst e;have:=(aov a ha).2.2;have:=(S.own a hb).1;omega
 · rw [List.flatMap_append]at hb;rcases List.mem_append.1 hb with hb | hb
   · obtain⟨h1,h2,h3⟩:=aov b hb;exact⟨h1,h2,.inl (zay S.nx h3)⟩
   · obtain⟨h1,h2,h3⟩:=S.own b hb;exact⟨za1 h1 S'.nx,(aew b h1).2 h2,h3⟩
def AH.Ny (g h:AH) (b:Nat):AH:=⟨h.nx,g.ob.set b (h.ob.get b)⟩
theorem AH.Nz (g h:AH)(b f:Nat):(g.Ny h b).ob.get f=if f=b then h.ob.get b else g.ob.get f:=by
 show(g.ob.set b _).get f=_;rw [NT.fR]
theorem Sep.freeze (S:Sep c g h (o::Γ)){b:Nat}(hb:o.cS=[b]):Sub g (g.Ny h b)∧Sep c (g.Ny h b) h Γ∧(g.Ny h b).ob.get b=h.ob.get b:=by
 have hbm:b∈o.cS:=by rw [hb];simp
 obtain⟨h1,h2,h3⟩:=S.own b (by rw [zaA];exact zaO _ hbm)
 have sg:Sub g (g.Ny h b):=⟨S.sub.nx,fun f x hx=>by
  rw [AH.Nz];split
  · rename_i e;subst e;rw [h2]at hx;cases hx
  · exact hx⟩
 refine⟨sg,⟨S.bF.trans sg,⟨zad _,fun f x hx=>?_⟩,S.ok,S.nx,fun f hf hc=>?_,S.drop.hZ,S.drop.nd,fun b' dN=>?_⟩,by rw [AH.Nz,if_pos rfl]⟩
 · rw [AH.Nz]at hx;split at hx
   · rename_i e;subst e;exact hx
   · exact S.sub.get f x hx
 · obtain⟨h4,h5⟩:=S.old f hf hc;refine⟨h4,fun hn=>?_⟩;rw [AH.Nz,if_neg]
   · exact h5 hn
   · rintro rfl;rcases h3 with h3 | h3
     · omega
     · exact hc h3
 · obtain⟨h4,h5,h6⟩:=S.drop.own b' dN;refine⟨h4,?_,h6⟩;rw [AH.Nz,if_neg]
   · exact h5
   · rintro rfl;exact S.apart hbm dN
theorem Sep.vk {b:Nat}{l:ZZE}(S:Sep c g h (.bx b l::Γ)):∃g',Sub g g'∧Sep c g' h Γ∧g'.bH b 0 l:=by
 obtain⟨h1,h2,h3⟩:=S.freeze (b:=b) rfl;exact⟨_,h1,h2,Ga h3 (S.hZ _ zai).1⟩
theorem Sep.aAY {ty:TypeId}{sz:Nat}{v:Z}{ls:List (ZZE)}(S:Sep c g h (.sl ty sz v ls::Γ)):∃g',Sub g g'∧Sep c g' h Γ∧jJ g' sz v ls:=by
 have H:iu h ty sz v ls:=S.hZ _ zai;have R:=H.read;cases R with
 | nil=>exact⟨g,.refl _,S.drop,.nil⟩
 | mk b o n cap ls hn hc hs hr=>
  obtain⟨h1,h2,h3⟩:=S.freeze (b:=b) rfl;exact⟨_,h1,h2,.mk b o n cap ls hn hc hs (Ga h3 hr)⟩
theorem Sep.fz {α:Type}{rep:iW α}{ty:TypeId}{sz:Nat}{v:Z}{ls:List (ZZE)}{l:List α}(S:Sep c g h (.sl ty sz v ls::Γ))(A:aw (rep g) ls l)(hm:vh rep):∃g',Sub g g'∧Sep c g' h Γ∧aa rep sz g' v l:=by
 obtain⟨g',h1,h2,h3⟩:=S.aAY;exact⟨g',h1,h2,ls,h3,A.mono fun x y hxy=>hm _ _ _ _ h1 hxy⟩
theorem Sep.back (S:Sep c g h Γ)(S':Sep c g' h' Γ')(hs:Sub g g'):Sep c g h' Γ':=
 ⟨S.bF,hs.trans S'.sub,S'.ok,S'.nx,fun f hf hc=>⟨(S'.old f hf hc).1,fun hn=>(S.old f hf hc).2 hn⟩,S'.hZ,S'.nd,fun b hb=>by
  obtain⟨h1,h2,h3⟩:=S'.own b hb;refine⟨h1,?_,h3⟩;cases hg:g.ob.get b with
  | none=>rfl
  | some x=>rw [hs.get b x hg]at h2;cases h2⟩
end
theorem bR {c A B h}(ht:c=true→A h)(hf:c=false→B h):br (.bool c) A B h:=by
 cases c with
 | true=>exact ht rfl
 | false=>exact hf rfl
theorem au {c want A K h}(e:c=want)(H:A K h):gd (.bool c) want A K h:=by
 subst e;unfold gd;cases c<;>exact H
theorem ax {c want A K h}(e:c≠want)(H:K undef h):gd (.bool c) want A K h:=by
 unfold gd;cases c<;>cases want<;>first | exact absurd rfl e | exact H
section
variable {c:Cx}{g h:AH}{Γ:List Ob}{R:Value→AH→Prop}
theorem Sep.dK {b o v}(S:Sep c g h Γ)(hr:g.rd b o=some v)(K:R v h):WP .aB [ak b o] h R:=(Uf (S.sub.rd hr)).2 K
theorem Sep.iX {b o n l}(S:Sep c g h Γ)(hr:g.bH b o l)(hn:l.length=n)(h0:0<n)(K:R (.agg ⟨l⟩) h):WP (.bZ n) [ak b o] h R:=(Ug (S.sub.bH hr) hn h0).2 K
theorem aoH {ty l}:Ob.ok (h.new ty l) (.bx h.nx l):=⟨AH.T9 h ty l,AH.acZ h ty l (by omega)⟩
theorem Sep.alloc {ty l}(S:Sep c g h Γ)(ha:fi l=true)(K:∀b h',Sep c g h' (.bx b l::Γ)→R (ak b 0) h'):WP (.alloc ty l) [] h R:=
 (Ml ha).2 (K _ _ (S.add _ (AH.AR S.ok _ _) (za5 _) (eK.new h ty l).get aoH (by simp [Ob.cS]) (fun b hb=>by simp [Ob.cS]at hb;subst hb;exact⟨zax _,zad _⟩)))
theorem Sep.box {ty v}(l:ZZE)(S:Sep c g h Γ)(hl:cellsOf v=l)(ha:fi l=true)(K:∀b h',Sep c g h' (.bx b l::Γ)→R (ak b 0) h'):WP (.box ty) [v] h R:=by
 subst hl;exact(Ue ha).2 (K _ _ (S.add _ (AH.AR S.ok _ _) (za5 _) (eK.new h ty _).get aoH (by simp [Ob.cS]) (fun b hb=>by simp [Ob.cS]at hb;subst hb;exact⟨zax _,zad _⟩)))
theorem Sep.aP {b o l v}(S:Sep c g h Γ)(i:Nat)(hi:Γ[i]? =some (.bx b l))(hv:l[o]? =some v)(K:R v h):WP .aB [ak b o] h R:=by
 have:=(S.hZ _ (zat hi)).1 o v hv;rw [zav]at this;exact(Uf this).2 K
theorem Sep.eA {b o n l}(m:ZZE)(S:Sep c g h Γ)(i:Nat)(hi:Γ[i]? =some (.bx b l))(hm:(l.drop o).take n=m)(hn:m.length=n)(h0:0<n)(K:R (.agg ⟨m⟩) h):WP (.bZ n) [ak b o] h R:=by
 have:=Vf n (Vg o (S.hZ _ (zat hi)).1);rw [zav,hm]at this;exact(Ug this hn h0).2 K
theorem aoI {l m o j}(hl:o+m.length≤l.length):(qu l o m)[j]? =if o≤j∧j<o+m.length then m[j-o]? else l[j]? :=by
 unfold qu
 by_cases h1:j<o
 · rw [if_neg (by omega),List.append_assoc,zaC (by rw [za3];omega),List.getElem?_take,if_pos h1]
 · rw [List.append_assoc,zaB (by rw [za3];omega),za3,Nat.min_eq_left (by omega)]
   by_cases h2:j<o+m.length
   · rw [if_pos (by omega),zaC (by omega)]
   · rw [if_neg (by omega),zaB (by omega),List.getElem?_drop];congr 1;omega
theorem aeB {l m o}(hl:o+m.length≤l.length):(qu l o m).length=l.length:=by unfold qu;simp;omega
theorem Sep.cV {b o n l v}(m l':ZZE)(S:Sep c g h (.bx b l::Γ))(hm:cellsOf v=m)(hn:m.length=n)(ha:fi m=true)(ho:o+n≤l.length)(kS:qu l o m=l')(K:∀h',Sep c g h' (.bx b l'::Γ)→R undef h'):WP (.store n) [ak b o,v] h R:=by
 subst hm;subst kS;subst hn;have H:Ob.ok h (.bx b l):=S.hZ _ zai;obtain⟨h1,lo,hi,ty,cc,h2,h3,h4⟩:=H;have hc:h.can b o (cellsOf v).length:=⟨lo,hi,ty,cc,h2,by omega,by omega⟩;refine(Uh hc rfl ha).2 (K _ ?_);have cy:=AH.lt_of_get S.ok h2;refine S.change _ (AH.AS S.ok _ _ _) (by rw [AH.rl];exact zad _) (fun f _ hf=>AH.CD h (by simp [Ob.cS]at hf;exact hf)) ⟨fun i u hu=>?_,?_⟩ (by simp [Ob.cS]) (fun b' dN=>by simp [Ob.cS]at dN;subst dN;exact⟨by rw [AH.rl];exact cy,.inr (by simp [Ob.cS])⟩)
 · rw [aoI ho]at hu;rw [zav,AH.CE hc (zad _)];split at hu
   · rename_i hh;rw [if_pos ⟨rfl,hh⟩];exact hu
   · rename_i hh;rw [if_neg (fun e=>hh e.2)];have:=h1 i u hu;rwa [zav]at this
 · rw [aeB ho];exact AH.T6 ⟨lo,hi,ty,cc,h2,h3,h4⟩
def xu (v:Z) (sz i b o:Nat):Prop:=∃o0 n cap,v=gD b o0 n cap∧o=o0+i*sz
theorem jJ.len {h2 sz v ls}(H:jJ h2 sz v ls)(K:R (vi (ls.length:Int)) h):WP .cb [v] h R:=by
 cases H with
 | nil=>exact axZ.2 K
 | mk b o n cap ls hn hc hs hr=>subst hn;exact ac8.2 K
theorem jJ.idx {h2 sz v ls}(H:jJ h2 sz v ls){i:Nat}{x:ZZE}(hx:ls[i]? =some x):
 ∃b o,xu v sz i b o∧h2.bH b o x∧∀(kd:IntKind) (h:AH) (R:Z→AH→Prop),R (ak b o) h→WP (.cf sz) [v,.int kd (i:Int)] h R:=by
 have hi:i<ls.length:=(List.getElem?_eq_some_iff.1 hx).1;cases H with
 | nil=>simp at hi
 | mk b o n cap ls hn hc hs hr=>
  subst hn;refine⟨b,o+i*sz,⟨o,_,cap,rfl,rfl⟩,fun j u hu=>?_,fun kd h R K=>(axT hi).2 K⟩;have:=hr (i*sz+j) u (adK hs hx j u hu)
  rwa [show o+(i*sz+j)=o+i*sz+j by omega]at this
theorem aa.len {α:Type}{rep:iW α}{g2:AH}{sz:Nat}{v:Z}{l:List α}(F:aa rep sz g2 v l)(K:R (vi (l.length:Int)) h):WP .cb [v] h R:=by
 obtain⟨ls,h1,h2⟩:=F;exact h1.len (by rw [h2.1];exact K)
theorem aa.idx {α:Type}{rep:iW α}{sz:Nat}{v:Z}{l:List α}{n:Int}{x:α}{kd:IntKind}(F:aa rep sz g v l)(hx:ix l n=some x)(K:∀b o vs,xu v sz n.toNat b o→g.bH b o vs→rep g vs x→R (ak b o) h):WP (.cf sz) [v,.int kd n] h R:=by
 obtain⟨i,rfl,hi,hx⟩:=Bf hx;obtain⟨ls,h1,h2⟩:=F;obtain⟨cs,h3,h4⟩:=h2.get hx;obtain⟨b,o,h7,h5,h6⟩:=h1.idx h3;exact h6 kd h R (K b o cs h7 h5 h4)
theorem xu.same {v sz i b o b' o'}(h1:xu v sz i b o)(h2:xu v sz i b' o'):b=b'∧o=o':=by
 obtain⟨o0,n,cap,e1,e2⟩:=h1;obtain⟨o1,n1,aKa,e3,e4⟩:=h2;rw [e1]at e3;cases e3;exact⟨rfl,e2.trans e4.symm⟩
theorem aBa {b o}:yC (ak b o) (ak b o)=true:=by
 show(Nat.beq b b&&Nat.beq o o)=true;rw [zbn,zbn];rfl
theorem Sep.Nt {α:Type}{rep:iW α}{ty:TypeId}{sz:Nat}{v:Z}{ls:List (ZZE)}{l:List α}(S:Sep c g h Γ)(k:Nat)(hk:Γ[k]? =some (.sl ty sz v ls))(A:aw (rep g) ls l)(K:R (vi (l.length:Int)) h):WP .cb [v] h R:=
 jJ.len (iu.read (S.hZ _ (zat hk))) (by rw [A.1];exact K)
theorem Sep.mF {α:Type}{rep:iW α}{ty:TypeId}{sz:Nat}{v:Z}{ls:List (ZZE)}{l:List α}{n:Int}{x:α}{kd:IntKind}(S:Sep c g h Γ)(k:Nat)(hk:Γ[k]? =some (.sl ty sz v ls))(A:aw (rep g) ls l)(hx:ix l n=some x)
 (K:∀b o cs,xu v sz n.toNat b o→ls[n.toNat]? =some cs→rep g cs x→R (ak b o) h):WP (.cf sz) [v,.int kd n] h R:=by
 obtain⟨i,rfl,hi,hx⟩:=Bf hx;obtain⟨cs,h3,h4⟩:=A.get hx;obtain⟨b,o,h5,_,h6⟩:=(iu.read (S.hZ _ (zat hk))).idx h3;exact h6 kd h R (K b o cs h5 h3 h4)
theorem Sep.aBb {α:Type}{rep:iW α}{ty:TypeId}{sz:Nat}{v:Z}{ls:List (ZZE)}{l:List α}{n:Int}{x:α}{kd:IntKind}{b o:Nat}(S:Sep c g h Γ)(k:Nat)(hk:Γ[k]? =some (.sl ty sz v ls))(A:aw (rep g) ls l)(hx:ix l n=some x)(E:xu v sz n.toNat b o):WP (.cf sz) [v,.int kd n] h (fun v' _=>yC v' (ak b o)=true):=
 S.mF k hk A hx fun b' o' cs E' _ _=>by obtain⟨rfl,rfl⟩:=E.same E';exact aBa
theorem jJ.elem {h2 sz v ls}(H:jJ h2 sz v ls){i b o:Nat}{x:ZZE}(hx:ls[i]? =some x)(E:xu v sz i b o):h2.bH b o x:=by
 obtain⟨b',o',⟨o0,n,cap,e1,e2⟩,h1,_⟩:=H.idx hx;obtain⟨o0',n',eX,e3,e4⟩:=E;rw [e1]at e3;cases e3;rw [e4,←e2];exact h1
theorem Sep.tU {ty sz v u ls i b o j cs}(S:Sep c g h Γ)(k:Nat)(hk:Γ[k]? =some (.sl ty sz v ls))(E:xu v sz i b o)(hc:ls[i]? =some cs)(hv:cs[j]? =some u)(K:R u h):WP .aB [ak b (o+j)] h R:=
 (Uf (((iu.read (S.hZ _ (zat hk))).elem hc E) j u hv)).2 K
theorem iu.wr {ty sz v ls i b o j cs m}(H:iu h ty sz v ls)(E:xu v sz i b o)(hc:ls[i]? =some cs)(hj:j+m.length≤sz):
 iP v=[b]∧h.can b (o+j) m.length∧iu (h.wr b (o+j) m) ty sz v (ls.set i (qu cs j m)):=by
 have hi:i<ls.length:=(List.getElem?_eq_some_iff.1 hc).1;obtain⟨o0,n0,aeC,e1,e2⟩:=E;subst e2;have le:(i+1)*sz≤ls.length*sz:=zbm _ hi;have hk:i*sz+sz≤ls.length*sz:=by rw [zaR,Nat.one_mul]at le;exact le
 have fl:∀(hs:∀x∈ls,x.length=sz) (q:Nat) (u:Z),(ls.set i (qu cs j m)).flatten[q]? =some u→(if i*sz+j≤q∧q<i*sz+j+m.length then m[q-(i*sz+j)]? else ls.flatten[q]?)=some u:=by
  intro hs q u hu;have iM:cs.length=sz:=hs cs (zat hc);rw [aot hs (by rw [aeB (by omega),iM]) hi]at hu
  by_cases h1:i*sz≤q∧q<i*sz+sz
  · rw [if_pos h1,aoI (by omega)]at hu
    by_cases h2:j≤q-i*sz∧q-i*sz<j+m.length
    · rw [if_pos h2]at hu;rw [if_pos (by omega)];rw [show q-(i*sz+j)=q-i*sz-j by omega];exact hu
    · rw [if_neg h2]at hu;rw [if_neg (by omega)];have:=adK hs hc (q-i*sz) u hu
      rwa [show i*sz+(q-i*sz)=q by omega]at this
  · rw [if_neg h1]at hu;rw [if_neg (by omega)];exact hu
 have sz':∀(hs:∀x∈ls,x.length=sz),∀x∈ls.set i (qu cs j m),x.length=sz:=fun hs x hx=>by
  rcases List.mem_or_eq_of_mem_set hx with h1 | h1
  · exact hs x h1
  · have iM:cs.length=sz:=hs cs (zat hc);rw [h1,aeB (by omega),iM]
 have aoJ:∀lo hi dY cc,h.ob.get b=some (.cells lo hi dY true cc)→(h.wr b (o0+i*sz+j) m).ob.get b=some (.cells lo hi dY true (nR cc (o0+i*sz+j) m)):=fun lo hi dY cc hg=>by
  unfold AH.wr;rw [hg];show(h.ob.set b _).get b=_;rw [NT.fR,if_pos rfl]
 cases H with
 | nil=>simp at hi
 | un b' o' n lo fx cc ls hn hb hg h1 h2 hr hs=>
  cases e1;have kq:h.can b (o0+i*sz+j) m.length:=⟨lo,fx,ty,cc,hg,by omega,by rw [hn]at h2;omega⟩;refine⟨rfl,kq,.un b o0 n0 lo fx _ _ (by simp [hn]) hb (aoJ _ _ _ _ hg) h1 h2 (fun q u hu=>?_) (sz' hs)⟩;rw [AH.CE kq (zad _)];have:=fl hs q u hu;split at this
  · rw [if_pos (by omega)];rw [show o0+q-(o0+i*sz+j)=q-(i*sz+j) by omega];exact this
  · rw [if_neg (by omega)];exact hr q u this
 | kn b' o' n cap lo fx dY cc ls hn hb vY hg h1 h2 hr hs=>
  cases e1;have:ls.length*sz≤aeC*sz:=zbm _ (by omega);have kq:h.can b (o0+i*sz+j) m.length:=⟨lo,fx,dY,cc,hg,by omega,by omega⟩;refine⟨rfl,kq,.kn b o0 n0 aeC lo fx dY _ _ (by simp [hn]) hb vY (aoJ _ _ _ _ hg) h1 h2 (fun q u hu=>?_) (sz' hs)⟩;rw [AH.CE kq (zad _)];have:=fl hs q u hu;split at this
  · rw [if_pos (by omega)];rw [show o0+q-(o0+i*sz+j)=q-(i*sz+j) by omega];exact this
  · rw [if_neg (by omega)];exact hr q u this
theorem iu.lt {ty sz v ls}(H:iu h ty sz v ls)(ok:h.Ok):∀b∈iP v,b<h.nx:=by
 cases H with
 | nil=>intro b hb;simp [iP]at hb
 | un b o n lo hi c ls hn hb hg h1 h2 hr hs=>intro b' dN;simp [iP]at dN;subst dN;exact AH.lt_of_get ok hg
 | kn b o n cap lo hi dY c ls hn hb hc hg h1 h2 hr hs=>intro b' dN;simp [iP]at dN;subst dN;exact AH.lt_of_get ok hg
theorem aoK (v:Z):(iP v).Nodup:=by unfold iP;split<;>simp
theorem C6 {ty sz v ls}:(Ob.sl ty sz v ls).cS.Nodup:=aoK v
theorem Sep.Bb {ty sz n v u ls i b o j cs}(m:ZZE)(S:Sep c g h (.sl ty sz v ls::Γ))(E:xu v sz i b o)(hc:ls[i]? =some cs)(hm:cellsOf u=m)(hn:m.length=n)(ha:fi m=true)(hj:j+n≤sz)
 (K:∀h',Sep c g h' (.sl ty sz v (ls.set i (qu cs j m))::Γ)→R undef h'):WP (.store n) [ak b (o+j),u] h R:=by
 subst hm;subst hn;have H:iu h ty sz v ls:=S.hZ _ zai;obtain⟨h1,h2,h3⟩:=H.wr E hc hj;refine(Uh h2 rfl ha).2 (K _ ?_);refine S.change _ (AH.AS S.ok _ _ _) (by rw [AH.rl];exact zad _) (fun f _ hf=>AH.CD h (fun e=>hf (by subst e;show f∈iP v;rw [h1];simp))) h3 (aoK v) (fun b' dN=>⟨by rw [AH.rl];exact H.lt S.ok b' dN,.inr dN⟩)
theorem Sep.Nw {ty sz zero n k1 k2}(S:Sep c g h Γ)(hn:(decide (0≤n)&&decide (n≤65536))=true)(hz:zero.length=sz)(ha:fi zero=true)(K:∀v h',Sep c g h' (.sl ty sz v (List.replicate n.toNat zero)::Γ)→R v h'):
 WP (.mkSlice ty sz zero) [.int k1 n,.int k2 n] h R:=by
 rw [zae,zap,zap]at hn;obtain⟨i,rfl⟩:∃i:Nat,n=i:=⟨n.toNat,by omega⟩;rw [zau]at K
 have iz:∀k:Nat,fi (List.replicate k zero).flatten=true:=by
  intro k
  induction k with
  | zero=>rfl
  | succ k ih=>
   rw [List.replicate_succ,zaN]
   have app:∀(l m:ZZE),fi l=true→fi m=true→fi (l++m)=true:=fun l m h1 h2=>by
    induction l with
    | nil=>exact h2
    | cons v l ihl=>
     rw [AW,zae]at h1;rw [za2,AW,zae];exact⟨h1.1,ihl h1.2⟩
   exact app _ _ ha ih
 refine(amd (zad i) (by omega) hz (iz i)).2 (K _ _ ?_);have hlen:(List.replicate i zero).flatten.length=i*sz:=by rw [xq (sz:=sz) (fun x hx=>by rw [(List.mem_replicate.1 hx).2];exact hz)];simp
 refine S.add _ (AH.AR S.ok _ _) (za5 _) (eK.new h _ _).get ?_ C6 (fun b hb=>by simp [Ob.cS,iP]at hb;subst hb;exact⟨zax _,zad _⟩);refine .kn h.nx 0 i i 0 (List.replicate i zero).flatten.length ty _ _ (by simp) (zad _) (by unfold bQ;omega) (by show(h.ob.set h.nx _).get h.nx=_;rw [NT.fR,if_pos rfl]) (zad _) (by rw [hlen];omega) ?_ (fun x hx=>by rw [(List.mem_replicate.1 hx).2];exact hz);exact AH.T9 h ty _
theorem Sep.tp {ty n sz cells ps vs}(ls:List (ZZE))(S:Sep c g h Γ)(hf:qv cells ps vs=some ls.flatten)(hn:ls.length=n)(hu:n<1000000)(hs:∀x∈ls,x.length=sz)(ha:fi ls.flatten=true)
 (K:∀v h',Sep c g h' (.sl ty sz v ls::Γ)→R v h'):WP (.buildSlice ty n cells ps) vs h R:=by
 subst hn;refine(ayp hf ha).2 (K _ _ ?_);refine S.add _ (AH.AR S.ok _ _) (za5 _) (eK.new h _ _).get ?_ C6 (fun b hb=>by simp [Ob.cS,iP]at hb;subst hb;exact⟨zax _,zad _⟩);exact .kn h.nx 0 ls.length ls.length 0 ls.flatten.length ty _ ls rfl (zad _) (by unfold bQ;omega) (by show(h.ob.set h.nx _).get h.nx=_;rw [NT.fR,if_pos rfl]) (zad _) (by rw [xq hs];omega) (AH.T9 h ty _) hs
theorem jJ.src {sz x xs}(H:jJ h sz x xs)(h0:0<sz)(k:Nat→ZZE→Bool):rh h sz x k=k xs.length xs.flatten:=by
 cases H with
 | nil=>exact ayd sz k
 | mk b o n cap _ hn hc hs hr=>
  subst hn;cases xs with
  | nil=>exact ayf k
  | cons y l=>exact aye hr (xq hs) (Nat.mul_pos (by simp) h0) k
theorem aoL {b o lo hi at_:Nat}{ty:TypeId}{rw:Bool}{cc:NT Z}{old xs:ZZE}{h2:AH}(hg2:h2.ob.get b=some (.cells lo hi ty rw (nR cc at_ xs)))(e:at_=o+old.length)(h1:lo≤o)(hhi:o+old.length+xs.length≤hi)(ho:∀q u,old[q]? =some u→cc.get (o+q)=some u):h2.bH b o (old++xs):=by
 subst e;intro q u hu;have hq:q<(old++xs).length:=(List.getElem?_eq_some_iff.1 hu).1;rw [zaG]at hq;unfold AH.rd;rw [hg2];show(if lo≤o+q∧o+q+1≤hi then(nR cc (o+old.length) xs).get (o+q)else none)=some u;rw [if_pos ⟨by omega,by omega⟩,FD]
 by_cases h:q<old.length
 · rw [if_neg (by omega)];rw [zaC h]at hu;exact ho q u hu
 · rw [if_pos ⟨by omega,by omega⟩];rw [zaB (by omega)]at hu;rw [show o+q-(o+old.length)=q-old.length by omega];exact hu
theorem aoM {b o lo hi ty rw cc l}(hg:h.ob.get b=some (.cells lo hi ty rw cc))(hr:h.bH b o l):∀q u,l[q]? =some u→cc.get (o+q)=some u:=fun q u hu=>by
 obtain⟨CF,fx,dY,tu,c',g1,_,_,g4⟩:=Ua (hr q u hu);rw [hg]at g1;cases g1;exact g4
theorem aeD {sz:Nat}{ls xs:List (ZZE)}(hs:∀x∈ls,x.length=sz)(hx:∀x∈xs,x.length=sz):∀x∈ls++xs,x.length=sz:=fun x h=>by
 rcases List.mem_append.1 h with h | h
 · exact hs x h
 · exact hx x h
theorem aoN {l m}(h1:fi l=true)(h2:fi m=true):fi (l++m)=true:=by
 induction l with
 | nil=>exact h2
 | cons v l ih=>
  rw [AW,zae]at h1;rw [za2,AW,zae];exact⟨h1.1,ih h1.2⟩
theorem jJ.EP {sz x xs}(H:jJ h sz x xs):∀y∈xs,y.length=sz:=by
 cases H with
 | nil=>intro y hy;simp at hy
 | mk b o n cap ls hn hc hs hr=>exact hs
theorem aBc {ty sz n zero xs x}(hx:∀k:Nat→ZZE→Bool,rh h sz x k=k n xs)(h1:1≤sz)(hz:zero.length=sz)(hn:0<n){b o cap:Nat}{s:Option Nat}(hb:n≤1048576)(hc:cap<n)(ha:fi xs=true):
 WP (.append ty sz zero) [.slice (some ⟨b,o,s⟩) 0 cap,x] h R↔R (gD h.nx 0 n (bQ+sz)) (h.new ty xs):=ef fun k=>by
 rw [FH hx h1 hz];show(bif Nat.beq n 0 then k (.slice (some ⟨b,o,none⟩) 0 cap) h else fN (Nat.add 0 n) fun mh=>iff (Nat.ble mh 1048576) (bif Nat.ble bQ cap then _ else bif Nat.ble mh cap then _ else bif Nat.beq 0 0 then pM h ty xs (fun b' h=>fN (Nat.add bQ sz) fun cp=>k (.slice (some ⟨b',0,none⟩) mh cp) h)else _))=_;have e:Nat.ble (0+n) 1048576=true:=by rw [zaD];omega
 have e2:Nat.ble bQ cap=false:=by
  have:¬bQ≤cap:=by unfold bQ;omega
  cases hh:Nat.ble bQ cap with
  | false=>rfl
  | true=>rw [zaD]at hh;exact absurd hh this
 have e3:Nat.ble (0+n) cap=false:=by
  cases hh:Nat.ble (0+n) cap with
  | false=>rfl
  | true=>rw [zaD]at hh;omega
 rw [jt (show n≠0 by omega)];simp only [zak];rw [dG,show Nat.add 0 n=0+n from rfl,e,jh,e2,e3];show pM h ty xs _=_;rw [FE h ty ha,dG,zav];rfl
theorem aBd {ty sz n zero xs x}(hx:∀k:Nat→ZZE→Bool,rh h sz x k=k n xs)(h1:1≤sz)(hz:zero.length=sz)(hn:0<n){b o len cap:Nat}{s:Option Nat}(hb:len+n≤1048576)(hc:len+n≤cap)(hu:cap<bQ)(ha:fi xs=true)(hw:h.can b (o+len*sz) xs.length):
 WP (.append ty sz zero) [.slice (some ⟨b,o,s⟩) len cap,x] h R↔R (gD b o (len+n) cap) (h.wr b (o+len*sz) xs):=ef fun k=>by
 rw [FH hx h1 hz];show(bif Nat.beq n 0 then k (.slice (some ⟨b,o,none⟩) len cap) h else fN (Nat.add len n) fun mh=>iff (Nat.ble mh 1048576) (bif Nat.ble bQ cap then _ else bif Nat.ble mh cap then fN (Nat.add o (Nat.mul len sz)) (fun at_=>xd h b at_ xs fun h=>k (.slice (some ⟨b,o,none⟩) mh cap) h)else _))=_;have e:Nat.ble (len+n) 1048576=true:=by rw [zaD];omega
 have e2:Nat.ble bQ cap=false:=by
  cases hh:Nat.ble bQ cap with
  | false=>rfl
  | true=>rw [zaD]at hh;omega
 have e3:Nat.ble (len+n) cap=true:=by rw [zaD];exact hc
 rw [jt (show n≠0 by omega)];simp only [zak];rw [dG,show Nat.add len n=len+n from rfl,e,jh,e2,e3];simp only [zam,zak];rw [dG];show xd h b (o+len*sz) xs _=_;rw [Uc hw ha]
theorem Sep.app {ty:TypeId}{sz:Nat}{zero:ZZE}{s x:Z}{ls xs:List (ZZE)}(S:Sep c g h (.sl ty sz s ls::Γ))(X:jJ h sz x xs)(hb:decide (ls.length+xs.length≤1048576)=true)(h0:0<sz)(hz:zero.length=sz)(ha:fi xs.flatten=true)(Vj:fi ls.flatten=true)
 (K:∀s' h',Sep c g h' (.sl ty sz s' (ls++xs)::Γ)→R s' h'):WP (.append ty sz zero) [s,x] h R:=by
 rw [zap]at hb;have C7:=X.src h0;have pK:=X.EP;have H:iu h ty sz s ls:=S.hZ _ zai;have hlx:xs.flatten.length=xs.length*sz:=xq pK;cases xs with
 | nil=>
  cases H with
  | nil=>exact(ayg C7 h0 hz).2 (K _ _ (by simpa using S))
  | un b o n lo hi cc ls hn Bi hg h1 h2 hr hs=>exact(ame C7 h0 hz).2 (K _ _ (by simpa using S))
  | kn b o n cap lo hi dY cc ls hn Bi vY hg h1 h2 hr hs=>exact(ame C7 h0 hz).2 (K _ _ (by simpa using S))
 | cons y xs=>
  have uW:0<(y::xs).length:=by simp
  generalize y::xs=xs at*
  have aBe:∀(all:List (ZZE)),all.length<bQ→(∀x∈all,x.length=sz)→iu (h.new ty all.flatten) ty sz (gD h.nx 0 all.length (bQ+sz)) all:=fun all hu hs=>by
   refine .un h.nx 0 all.length 0 all.flatten.length _ all rfl hu (by show(h.ob.set h.nx _).get h.nx=_;rw [NT.fR,if_pos rfl]) (zad _) ?_ (AH.T9 h ty _) hs;rw [xq hs];omega
  have aKb:1048576<bQ:=by unfold bQ;omega
  have fresh:∀(all:List (ZZE)),all.length<bQ→(∀x∈all,x.length=sz)→Sep c g (h.new ty all.flatten) (.sl ty sz (gD h.nx 0 all.length (bQ+sz)) all::Γ):=fun all hu hs=>
   S.change _ (AH.AR S.ok _ _) (za5 _) (fun f hf _=>(eK.new h ty _).get f hf) (aBe all hu hs) C6 (fun b hb=>by simp [Ob.cS,iP]at hb;subst hb;exact⟨zax _,.inl (zad _)⟩)
  cases H with
  | nil=>
   refine(ayh C7 h0 hz uW (by simpa using hb) ha).2 (K _ _ ?_);exact fresh xs (by simp at hb;omega) pK
  | un b o n lo hi cc ls hn Bi hg h1 h2 hr hs=>
   subst hn;refine(ayi C7 h0 hz uW hb ha hg h1 h2).2 (K _ _ ?_);have cy:=AH.lt_of_get S.ok hg
   have Gb:(h.grown b o ty cc (o+ls.length*sz) (o+(ls.length+xs.length)*sz) xs.flatten).ob.get h.nx=some (.cells o (o+(ls.length+xs.length)*sz) ty true (nR cc (o+ls.length*sz) xs.flatten)):=by
    show((h.kill b).hY _).ob.get h.nx=_;rw [AH.xg,if_pos (show h.nx=(h.kill b).nx from rfl)]
   refine S.change _ (AH.FG (AH.amb S.ok b) _) (za5 _) (fun f hf eM=>?_) ?_ C6 (fun b' dN=>by simp [Ob.cS,iP]at dN;subst dN;exact⟨zax _,.inl (zad _)⟩)
   · have hfb:f≠b:=fun e=>eM (by rw [e];simp [Ob.cS,iP])
     show((h.kill b).hY _).ob.get f=_;rw [AH.xg,if_neg (show¬f=(h.kill b).nx from fun e=>by have e':f=h.nx:=e;omega),AH.Un,if_neg hfb]
   · refine .un h.nx o (ls.length+xs.length) o (o+(ls.length+xs.length)*sz) _ (ls++xs) (by simp) (by omega) Gb (zad _) (zad _) ?_ (aeD hs pK);rw [List.flatten_append];exact aoL Gb (by rw [xq hs]) (zad _) (by rw [xq hs,hlx,zaR];omega) (aoM hg hr)
  | kn b o n cap lo hi dY cc ls hn Bi vY hg h1 h2 hr hs=>
   subst hn
   by_cases vg:ls.length+xs.length≤cap
   · have hmul:(ls.length+xs.length)*sz≤cap*sz:=zbm _ vg;rw [zaR]at hmul;have hw:h.can b (o+ls.length*sz) xs.flatten.length:=⟨lo,hi,dY,cc,hg,by omega,by rw [hlx];omega⟩;refine(aBd C7 h0 hz uW hb vg vY ha hw).2 (K _ _ ?_)
     have Gb:(h.wr b (o+ls.length*sz) xs.flatten).ob.get b=some (.cells lo hi dY true (nR cc (o+ls.length*sz) xs.flatten)):=by
      unfold AH.wr;rw [hg];show(h.ob.set b _).get b=_;rw [NT.fR,if_pos rfl]
     refine S.change _ (AH.AS S.ok _ _ _) (by rw [AH.rl];exact zad _) (fun f _ hf=>AH.CD h (fun e=>hf (by rw [e];simp [Ob.cS,iP]))) ?_ C6 (fun b' dN=>by simp [Ob.cS,iP]at dN;subst dN;exact⟨by rw [AH.rl];exact AH.lt_of_get S.ok hg,.inr (by simp [Ob.cS,iP])⟩);refine .kn b o (ls.length+xs.length) cap lo hi dY _ (ls++xs) (by simp) vg vY Gb h1 h2 ?_ (aeD hs pK);rw [List.flatten_append];exact aoL Gb (by rw [xq hs]) h1 (by rw [xq hs,hlx];omega) (aoM hg hr)
   · have qX:=hr;have big:=fresh (ls++xs) (by simp;omega) (aeD hs pK);rw [List.flatten_append,zaG]at big;cases ls with
     | nil=>
      have:WP (.append ty sz zero) [gD b o 0 cap,x] h R:=(aBc C7 h0 hz uW (by simpa using hb) (by simp at vg;omega) ha).2 (K _ _ (by simpa using big));simpa using this
     | cons z ls=>
      exact(ayj C7 h0 hz uW hb (by omega) (aoN Vj ha) (by simp) hr (xq hs)).2 (K _ _ big)
def vm {α:Type}(l:List α) (a b:Int):Option (List α):=gu (decide (0≤a)&&decide (a≤b)&&decide (b≤(l.length:Int))) (some ((l.take b.toNat).drop a.toNat))
theorem aeE {α:Type}{l m:List α}{a b:Int}(h:vm l a b=some m):∃i j:Nat,a=i∧b=j∧i≤j∧j≤l.length∧m=(l.take j).drop i:=by
 obtain⟨h1,h2⟩:=nE h;simp only [zae,zap]at h1;cases h2;exact⟨a.toNat,b.toNat,by omega,by omega,by omega,by omega,rfl⟩
def pT (sz:Nat) (v:Z) (i j:Nat):Z:=match v with | .slice (some a) n cap=>if cap<bQ then(if cap=i then .slice (some ⟨a.block,a.off,none⟩) (j-i) 0 else .slice (some ⟨a.block,a.off+i*sz,none⟩) (j-i) (cap-i))else .slice (some ⟨a.block,a.off+i*sz,none⟩) (j-i) cap | v=>v
theorem ND {sz b o n cap i j}(hc:aeu sz n cap)(C8:i≤j)(hj:j≤n)(lo hi:Bool){vs:ZZE}(hl:lo=false→i=0)(hh:hi=false→j=n){k1 k2:IntKind}(hv:vs=(if lo then [.int k1 (i:Int)]else [])++(if hi then [.int k2 (j:Int)]else []))(K:R (pT sz (gD b o n cap) i j) h):
    WP (.slice sz lo hi false) (gD b o n cap::vs) h R:=by
  have key:∀k:KV,(iff (true&&Nat.ble i j&&Nat.ble j cap&&(Nat.ble j n|| !(Nat.ble bQ cap))&&true&&(bif Nat.ble bQ cap then Nat.beq cap (Nat.add bQ sz)else true)) (AA sz i j cap cap false b o fun v=>k v h))=k (pT sz (gD b o n cap) i j) h:=fun k=>by
    obtain⟨hn,hc⟩:=hc;rcases hc with⟨h1,h2⟩ | h1
    · have e1:Nat.ble bQ cap=false:=by
        cases hh:Nat.ble bQ cap with
        | false=>rfl
        | true=>rw [zaD]at hh;omega
      have e2:(true&&Nat.ble i j&&Nat.ble j cap&&(Nat.ble j n|| !(Nat.ble bQ cap))&&true&&(bif Nat.ble bQ cap then Nat.beq cap (Nat.add bQ sz)else true))=true:=by
        rw [e1];simp only [zae,zaD,zbi,zaZ,zak];exact⟨⟨⟨⟨⟨trivial,C8⟩,by omega⟩,.inl hj⟩,trivial⟩,trivial⟩
      rw [e2,jh];unfold AA;rw [dG,e1];show iff (Nat.ble (Nat.succ cap) bQ) _=_;have e3:Nat.ble (Nat.succ cap) bQ=true:=by rw [zaD];exact h2
      rw [e3,jh];show _=k (if cap<bQ then(if cap=i then .slice (some ⟨b,o,none⟩) (j-i) 0 else .slice (some ⟨b,o+i*sz,none⟩) (j-i) (cap-i))else .slice (some ⟨b,o+i*sz,none⟩) (j-i) cap) h;rw [if_pos h2]
      by_cases ly:cap=i
      · rw [if_pos ly,qh ly];rfl
      · rw [if_neg ly,jt ly];simp only [zak];rw [dG,dG];rfl
    · subst h1;have e1:Nat.ble bQ (bQ+sz)=true:=by rw [zaD];omega
      have e4:Nat.beq (bQ+sz) (Nat.add bQ sz)=true:=by rw [Nat.beq_eq];rfl
      have e2:(true&&Nat.ble i j&&Nat.ble j (bQ+sz)&&(Nat.ble j n|| !(Nat.ble bQ (bQ+sz)))&&true&&(bif Nat.ble bQ (bQ+sz)then Nat.beq (bQ+sz) (Nat.add bQ sz)else true))=true:=by
        rw [e1,e4];simp only [zae,zaD,zbi,zas,zam];exact⟨⟨⟨⟨⟨trivial,C8⟩,by omega⟩,.inl hj⟩,trivial⟩,trivial⟩
      rw [e2,jh];unfold AA;rw [dG,e1];simp only [zaZ,Bool.and_true,zam];rw [dG];show _=k (if bQ+sz<bQ then _ else .slice (some ⟨b,o+i*sz,none⟩) (j-i) (bQ+sz)) h;rw [if_neg (by omega)];rfl
  subst hv;cases lo<;>cases hi
  · have hl:=hl rfl;have hh:=hh rfl;subst hl;subst hh;exact(ef (p:=.slice sz false false false) (vs:=[gD b o j cap]) (v:=pT sz (gD b o j cap) 0 j) (h':=h) (h:=h) key).2 K
  · have hl:=hl rfl;subst hl;exact(ef (p:=.slice sz false true false) (vs:=[gD b o n cap,.int k2 (j:Int)]) (v:=pT sz (gD b o n cap) 0 j) (h':=h) (h:=h) key).2 K
  · have hh:=hh rfl;subst hh;exact(ef (p:=.slice sz true false false) (vs:=[gD b o j cap,.int k1 (i:Int)]) (v:=pT sz (gD b o j cap) i j) (h':=h) (h:=h) key).2 K
  · exact(ef (p:=.slice sz true true false) (vs:=[gD b o n cap,.int k1 (i:Int),.int k2 (j:Int)]) (v:=pT sz (gD b o n cap) i j) (h':=h) (h:=h) key).2 K
theorem jJ.cut {h2 sz v ls}(H:jJ h2 sz v ls){i j:Nat}(C8:i≤j)(hj:j≤ls.length)(lo hi:Bool)(hl:lo=false→i=0)(hh:hi=false→j=ls.length){k1 k2:IntKind}{vs:ZZE}(hv:vs=(if lo then [.int k1 (i:Int)]else [])++(if hi then [.int k2 (j:Int)]else [])):
 ∃v',jJ h2 sz v' ((ls.take j).drop i)∧∀(h:AH) (R:Z→AH→Prop),R v' h→WP (.slice sz lo hi false) (v::vs) h R:=by
 cases H with
 | nil=>
  have hj0:j=0:=by simpa using hj
  have tV:i=0:=by omega
  subst hj0;subst tV;refine⟨bJ,.nil,fun h R K=>?_⟩;subst hv;refine WP.mono (R:=R) (fun v h hr=>hr) ?_;cases lo<;>cases hi<;>exact fun k hk=>hk _ _ K
 | mk b o n cap ls hn hc hs hr=>
  subst hn;refine⟨pT sz (gD b o ls.length cap) i j,?_,fun h R K=>ND hc C8 hj lo hi hl hh hv K⟩
  have qX:h2.bH b (o+i*sz) ((ls.take j).drop i).flatten:=by
   rw [Vc i (fun x hx=>hs x (zbC hx)),Vd j hs];exact Vg _ (Vf _ hr)
  have hs':∀x∈(ls.take j).drop i,x.length=sz:=fun x hx=>hs x (zbC (List.mem_of_mem_drop hx))
  have hlen:((ls.take j).drop i).length=j-i:=by simp;omega
  obtain⟨h0,hc⟩:=hc;show jJ h2 sz (if cap<bQ then(if cap=i then .slice (some ⟨b,o,none⟩) (j-i) 0 else .slice (some ⟨b,o+i*sz,none⟩) (j-i) (cap-i))else .slice (some ⟨b,o+i*sz,none⟩) (j-i) cap) _;rcases hc with⟨h3,h4⟩ | h3
  · rw [if_pos h4]
    by_cases ly:cap=i
    · rw [if_pos ly];have:j=i:=by omega
      subst this;have e:(ls.take j).drop j=[]:=List.drop_of_length_le (by rw [za3];omega);rw [e];exact .mk b o (j-j) 0 [] (by rw [Nat.sub_self];rfl) ⟨by omega,.inl ⟨by omega,by omega⟩⟩ (by simp) (AH.T7 _ _ _)
    · rw [if_neg ly];exact .mk b _ _ _ _ hlen.symm ⟨by omega,.inl ⟨by omega,by omega⟩⟩ hs' qX
  · rw [if_neg (by omega)];exact .mk b _ _ _ _ hlen.symm ⟨by omega,.inr h3⟩ hs' qX
theorem iu.cut {ty sz v ls}(H:iu h ty sz v ls){i j:Nat}(C8:i≤j)(hj:j≤ls.length)(lo hi:Bool)(hl:lo=false→i=0)(hh:hi=false→j=ls.length){k1 k2:IntKind}{vs:ZZE}(hv:vs=(if lo then [.int k1 (i:Int)]else [])++(if hi then [.int k2 (j:Int)]else [])):
 ∃v',iu h ty sz v' ((ls.take j).drop i)∧iP v'=iP v∧∀(R:Z→AH→Prop),R v' h→WP (.slice sz lo hi false) (v::vs) h R:=by
 cases H with
 | nil=>
  have hj0:j=0:=by simpa using hj
  have tV:i=0:=by omega
  subst hj0;subst tV;refine⟨bJ,.nil,rfl,fun R K=>?_⟩;subst hv;cases lo<;>cases hi<;>exact fun k hk=>hk _ _ K
 | un b o n CF fx cc ls hn Bi hg h1 h2 hr hs=>
  subst hn;refine⟨pT sz (gD b o ls.length (bQ+sz)) i j,?_,?_,fun R K=>ND ⟨Bi,.inr rfl⟩ C8 hj lo hi hl hh hv K⟩
  · show iu h ty sz (if bQ+sz<bQ then _ else .slice (some ⟨b,o+i*sz,none⟩) (j-i) (bQ+sz)) _;rw [if_neg (by omega)];have m1:i*sz≤j*sz:=zbm _ C8;have m2:j*sz≤ls.length*sz:=zbm _ hj;refine .un b _ _ CF fx cc _ (by simp;omega) (by omega) hg (by omega) (by rw [Nat.sub_mul];omega) ?_ (fun x hx=>hs x (zbC (List.mem_of_mem_drop hx)));rw [Vc i (fun x hx=>hs x (zbC hx)),Vd j hs];exact Vg _ (Vf _ hr)
  · show iP (if bQ+sz<bQ then _ else .slice (some ⟨b,o+i*sz,none⟩) (j-i) (bQ+sz))=_;rw [if_neg (by omega)];rfl
 | kn b o n cap CF fx dY cc ls hn Bi vY hg h1 h2 hr hs=>
  subst hn;refine⟨pT sz (gD b o ls.length cap) i j,?_,?_,fun R K=>ND ⟨by omega,.inl ⟨Bi,vY⟩⟩ C8 hj lo hi hl hh hv K⟩
  · show iu h ty sz (if cap<bQ then(if cap=i then .slice (some ⟨b,o,none⟩) (j-i) 0 else .slice (some ⟨b,o+i*sz,none⟩) (j-i) (cap-i))else .slice (some ⟨b,o+i*sz,none⟩) (j-i) cap) _;rw [if_pos vY];have m1:i*sz≤cap*sz:=zbm _ (by omega)
    by_cases ly:cap=i
    · rw [if_pos ly];have:j=i:=by omega
      subst this;have e:(ls.take j).drop j=[]:=List.drop_of_length_le (by rw [za3];omega);rw [e];exact .kn b o _ 0 CF fx dY cc [] (by simp) (by omega) (by omega) hg h1 (by omega) (AH.T7 _ _ _) (by simp)
    · rw [if_neg ly];refine .kn b _ _ _ CF fx dY cc _ (by simp;omega) (by omega) (by omega) hg (by omega) (by rw [Nat.sub_mul];omega) ?_ (fun x hx=>hs x (zbC (List.mem_of_mem_drop hx)));rw [Vc i (fun x hx=>hs x (zbC hx)),Vd j hs];exact Vg _ (Vf _ hr)
  · show iP (if cap<bQ then(if cap=i then .slice (some ⟨b,o,none⟩) (j-i) 0 else .slice (some ⟨b,o+i*sz,none⟩) (j-i) (cap-i))else .slice (some ⟨b,o+i*sz,none⟩) (j-i) cap)=_
    by_cases h5:cap=i
    · rw [if_pos vY,if_pos h5];rfl
    · rw [if_pos vY,if_neg h5];rfl
end
def One {α:Type}(rep:iW α) (n:Nat):Prop:=∀g vs x,rep g vs x→vs.length=n∧fi vs=true
theorem rY (k:IntKind):One (rI k) 1:=fun _ vs x h=>by cases h;exact⟨rfl,rfl⟩
theorem ag {v l}(h1:iA v=true)(h2:fi l=true):fi (v::l)=true:=by rw [AW,h1,h2];rfl
theorem aoO {α:Type}{rep:iW α}{sz:Nat}:One (rL rep sz) 1:=fun _ vs x ⟨v,h1,h2⟩=>by subst h1;exact⟨rfl,ag h2.one rfl⟩
theorem nF {α rep n}(H:One rep n){g:AH}{ls:List (ZZE)}{l:List α}(A:aw (rep g) ls l):fi ls.flatten=true:=by
 induction ls generalizing l with
 | nil=>rfl
 | cons x ls ih=>
  cases l with
  | nil=>have:=A.1;simp at this
  | cons y l=>
   rw [zaN];refine aoN (H g x y (A.2 0 x y rfl rfl)).2 (ih (l:=l) ⟨by simpa using A.1,fun i a b ha hb=>A.2 (i+1) a b (by simpa using ha) (by simpa using hb)⟩)
def bytesOf (l:List UInt8):ByteArray:=⟨⟨l⟩⟩
theorem tq {sz}:∀x∈([]:List (ZZE)),x.length=sz:=fun x h=>by simp at h
theorem vn {sz:Nat}{y:ZZE}{l:List (ZZE)}(h1:y.length=sz)(h2:∀x∈l,x.length=sz):∀x∈y::l,x.length=sz:=fun x h=>by
 rcases List.mem_cons.1 h with rfl | h
 · exact h1
 · exact h2 x h
theorem rn {l m l2 r o n ps v vs}(h1:cellsOf v=m)(h2:m.length=n)(h3:o+n≤l.length)(h4:qu l o m=l2)(H:qv l2 ps vs=some r):qv l ((o,n)::ps) (v::vs)=some r:=by
 subst h1;subst h4;unfold qv;rw [if_pos ⟨h2,h3⟩];exact H
theorem Gc {k n}:yC (.int k n) (.int k n)=true:=by
 show(bif jE k k then qp n n else false)=true;rw [uY,Ih];simp
theorem aoP {b o}:yC (ak b o) (ak b o)=true:=by
 show(Nat.beq b b&&Nat.beq o o)=true;rw [zbn,zbn];rfl
theorem jJ.veq {g sz v ls}(H:jJ g sz v ls):yC v v=true:=by
 cases H with
 | nil=>rfl
 | mk b o n cap ls hn hc hs hr=>
  show(Nat.beq b b&&Nat.beq o o&&Nat.beq n n&&Nat.beq cap cap)=true;rw [zbn,zbn,zbn,zbn];rfl
theorem dQ {want A K h}(H:K undef h):gd undef want A K h:=H
theorem yg {A B h}(H:A h):br (.bool true) A B h:=H
theorem qT {A B h}(H:B h):br (.bool false) A B h:=H
section
variable {c:Cx}{g h g' h':AH}{Γ:List Ob}{R:Value→AH→Prop}
theorem Gd {α len}(l:List α)(f:α→Z)(hl:l.length=len){n:Int}{x:α}{kd:IntKind}(hx:ix l n=some x)(K:R (f x) h):WP (.x9 len) [.agg ⟨l.map f⟩,.int kd n] h R:=by
 obtain⟨i,rfl,hi,hx⟩:=Bf hx;exact(axV (by omega) (by rw [zaJ,hx];rfl)).2 K
theorem aBf {α:Type}{len sz b o:Nat}{l:List α}{n:Int}{x:α}{kd:IntKind}(hx:ix l n=some x)(hl:l.length=len)(K:R (ak b (o+n.toNat*sz)) h):WP (.Q1 len sz) [ak b o,.int kd n] h R:=by
 obtain⟨i,rfl,hi,hx⟩:=Bf hx;exact(axU (by omega)).2 K
theorem aBg {α}(pre:ZZE)(l:List α)(f:α→Z)(post:ZZE){n:Int}{x:α}(hx:ix l n=some x):(pre++(l.map f++post))[pre.length+n.toNat*1]? =some (f x):=by
 obtain⟨i,rfl,hi,hx⟩:=Bf hx;rw [zaB (by omega),zaC (by simp;omega),zaJ,zau,Nat.mul_one,zbF,hx];rfl
theorem Sep.kX {ty sz v ls}(S:Sep c g h Γ)(k:Nat)(hk:Γ[k]? =some (.sl ty sz v ls)):iA v=true:=iu.one (S.hZ _ (zat hk))
theorem Sep.rd {ty sz v ls}(S:Sep c g h Γ)(k:Nat)(hk:Γ[k]? =some (.sl ty sz v ls)):jJ h sz v ls:=iu.read (S.hZ _ (zat hk))
theorem Sep.dz (S:Sep c g h Γ)(S':Sep ⟨g,h,[]⟩ g' h' []):Sep c g h' Γ:=
 S.call ((Sep.start S.sub S.ok).back S' S'.bF)
theorem Sep.take (S:Sep c g h Γ)(n:Nat):Sep c g h (Γ.take n):=by
 have aM:(Γ.take n).Sublist Γ:=List.take_sublist n Γ
 have hf:((Γ.take n).flatMap Ob.cS).Sublist (Γ.flatMap Ob.cS):=by
  have e:Γ.flatMap Ob.cS=(Γ.take n).flatMap Ob.cS++(Γ.drop n).flatMap Ob.cS:=by rw [←List.flatMap_append,List.take_append_drop]
  rw [e];exact List.sublist_append_left _ _
 exact⟨S.bF,S.sub,S.ok,S.nx,S.old,fun x hx=>S.hZ x (aM.subset hx),hf.nodup S.nd,fun b hb=>S.own b (hf.subset hb)⟩
theorem Jb {ss vs}(l:ZZE)(hs:tN ss vs=true)(e:vs.flatMap cellsOf=l)(K:R (.agg ⟨l⟩) h):WP (.x8 ss) vs h R:=(Uq hs).2 (by rw [e];exact K)
theorem aeF:o5 [] [] []=some true:=rfl
theorem C9 {k x y ks l m b}(H:o5 ks l m=some b):o5 (0::ks) (.int k x::l) (.int k y::m)=some (decide (x=y)&&b):=by
 have e:qk 0 (.int k x) (.int k y)=some (decide (x=y)):=by
  show(bif jE k k then some (qp x y)else none)=_;rw [uY,Ih];rfl
 unfold o5;rw [e,H];cases decide (x=y)<;>rfl
theorem aBh {x y ks l m b}(H:o5 ks l m=some b):o5 (1::ks) (.bool x::l) (.bool y::m)=some (decide (x=y)&&b):=by
 unfold o5;rw [H];cases x<;>cases y<;>rfl
theorem aoQ {x y ks l m b}(H:o5 ks l m=some b):o5 (2::ks) (.string x::l) (.string y::m)=some (decide (x=y)&&b):=by
 have e:qk 2 (.string x) (.string y)=some (decide (x=y)):=by
  show some (nN x.data.toList y.data.toList)=_;rw [T3,decide_eq_decide.2 bytes_inj]
 unfold o5;rw [e,H];cases decide (x=y)<;>rfl
theorem aeG {ks l m b ng R}(e:o5 ks l m=some b):WP (.Ho ng ks) [.agg ⟨l⟩,.agg ⟨m⟩] h R↔R (.bool (b != ng)) h:=ef fun k=>by
 show yB (o5 ks l m) ng (fun v=>k v h)=_;rw [e];show fB (bif ng then !b else b) (fun b=>k (.bool b) h)=_;rw [lA];cases b<;>cases ng<;>rfl
theorem aa.aeH {α:Type}{rep:iW α}{sz:Nat}{v:Z}{l m:List α}{b:Int}{k2:IntKind}(F:aa rep sz g v l)(S:Sep c g h Γ)(hx:vm l 0 b=some m)(K:∀v',aa rep sz g v' m→R v' h):WP (.slice sz false true false) [v,.int k2 b] h R:=by
 obtain⟨i,j,e,rfl,h1,h2,rfl⟩:=aeE hx;have e:i=0:=by omega
 subst e;obtain⟨ls,h3,h4⟩:=F;obtain⟨v',h5,h6⟩:=h3.cut (i:=0) (j:=j) (k1:=.i64) (k2:=k2) h1 (by rw [h4.1];exact h2) false true (fun _=>rfl) (by simp) rfl;exact h6 h R (K v' ⟨_,h5,(h4.take j).drop 0⟩)
theorem Sep.cut {α:Type}{rep:iW α}{ty:TypeId}{sz:Nat}{v:Z}{ls:List (ZZE)}{l:List α}{i j:Nat}{k1 k2:IntKind}{vs:ZZE}(S:Sep c g h (.sl ty sz v ls::Γ))(A:aw (rep g) ls l)(h1:i≤j)(h2:j≤l.length)(lo hi:Bool)(hl:lo=false→i=0)(hh:hi=false→j=l.length)
 (hv:vs=(if lo then [.int k1 (i:Int)]else [])++(if hi then [.int k2 (j:Int)]else [])) (K:∀v' wj,Sep c g h (.sl ty sz v' wj::Γ)→aw (rep g) wj ((l.take j).drop i)→R v' h):WP (.slice sz lo hi false) (v::vs) h R:=by
 have H:iu h ty sz v ls:=S.hZ _ zai;obtain⟨v',h5,h6,h7⟩:=H.cut (k1:=k1) (k2:=k2) h1 (by rw [A.1];exact h2) lo hi hl (fun e=>(hh e).trans A.1.symm) hv;refine h7 R (K v' _ ?_ ((A.take j).drop i));refine S.change _ S.ok (zad _) (fun _ _ _=>rfl) h5 C6 (fun b hb=>?_);have dN:b∈iP v:=by have qn:b∈iP v':=hb;rwa [h6]at qn
 exact⟨H.lt S.ok b dN,.inr dN⟩
theorem Sep.aBi {α:Type}{rep:iW α}{ty:TypeId}{sz:Nat}{v:Z}{ls:List (ZZE)}{l m:List α}{a:Int}{k1:IntKind}(S:Sep c g h (.sl ty sz v ls::Γ))(A:aw (rep g) ls l)(hx:vm l a (l.length:Int)=some m)(K:∀v' wj,Sep c g h (.sl ty sz v' wj::Γ)→aw (rep g) wj m→R v' h):WP (.slice sz true false false) [v,.int k1 a] h R:=by
 obtain⟨i,j,rfl,e,h1,h2,rfl⟩:=aeE hx;exact S.cut (k2:=.i64) A h1 h2 true false (by simp) (fun _=>by omega) rfl K
theorem Sep.aeH {α:Type}{rep:iW α}{ty:TypeId}{sz:Nat}{v:Z}{ls:List (ZZE)}{l m:List α}{b:Int}{k2:IntKind}(S:Sep c g h (.sl ty sz v ls::Γ))(A:aw (rep g) ls l)(hx:vm l 0 b=some m)(K:∀v' wj,Sep c g h (.sl ty sz v' wj::Γ)→aw (rep g) wj m→R v' h):WP (.slice sz false true false) [v,.int k2 b] h R:=by
 obtain⟨i,j,e,rfl,h1,h2,rfl⟩:=aeE hx;exact S.cut (k1:=.i64) A h1 h2 false true (fun _=>by omega) (by simp) rfl K
end
inductive Fl where
 | go
 | ret
 | ex (n:Nat)
def Fl.pd:Fl→Option Code | .go=>none | .ret=>some .ret | .ex n=>some (.exit n)
def Fl.st:Fl→LoopState | .go=>.ready | _=>.done
def Fl.on:Fl→Bool | .go=>true | _=>false
def Ge {ρ:Type}(f:Fl) (N Rt:Option ρ) (X:Nat→Option ρ):Option ρ:=match f with | .go=>N | .ret=>Rt | .ex n=>X n
theorem aeI {ρ:Type}{N Rt:Option ρ}{X:Nat→Option ρ}{r:ρ}(h:Ge .go N Rt X=some r):N=some r:=h
theorem aeJ {ρ:Type}{N Rt:Option ρ}{X:Nat→Option ρ}{r:ρ}(h:Ge .ret N Rt X=some r):Rt=some r:=h
theorem Vk {N Rt X h}(H:N h):zW Fl.go.pd N Rt X h:=H
theorem aeK {N Rt X h}(H:Rt h):zW Fl.ret.pd N Rt X h:=H
def rq {α σ:Type}(b:σ→α→Option (σ×Fl)):List α→σ→Option (σ×Fl) | [],s=>some (s,.go) | x::l,s=>(b s x).bind fun q=>match q.2 with | .go=>rq b l q.1 | f=>some (q.1,f)
def Bj {α:Type}(P:Program) (w0:World) (g:AH) (fv:Z) (c:α→ZZE) (l:List α):Prop:=iA fv=true∧∃id first dm,fv= .func (.func id) ⟨first⟩ ⟨dm⟩∧∀(yv:Z) (Inv:Nat→AH→AH→Prop) (Stop:AH→Prop) (Q:CR→AH→Prop) (g1 h:AH),Sub g g1→(∀i g h g' h',Inv i g h→Sep ⟨g,h,[]⟩ g' h' []→Inv i g' h')→(∀i g h,Inv i g h→Sub g h∧h.Ok)→(∀i x g h (E K:Z→W),l[i]? =some x→Inv i g h→(∀g' h',Sub g g'→Inv (i+1) g' h'→K (.bool true) h')→(∀h',Stop h'→K (.bool false) h')→dy P w0 (yv::c x) E K h)→Inv 0 g1 h→(∀v g' h',Sub g1 g'→Inv l.length g' h'→Q (.ret v) h')→(∀v h',Stop h'→Q (.ret v) h')→WF P w0 id (first++(yv::dm)) h Q
theorem Bj.mono {α:Type}{P:Program}{w0:World}{g g':AH}{fv:Z}{c:α→ZZE}{l:List α}(H:Bj P w0 g fv c l)(S:Sub g g'):Bj P w0 g' fv c l:=by
 obtain⟨h0,id,first,dm,h1,h2⟩:=H;exact⟨h0,id,first,dm,h1,fun yv Inv Stop Q g1 h s=>h2 yv Inv Stop Q g1 h (S.trans s)⟩
section
variable {c:Cx}{g h g' h':AH}{Γ:List Ob}{R:Value→W}
theorem Sep.Vl {n lo st pd}(S:Sep c g h (.lp n lo st pd::Γ))(Jc:LoopState)(CI:Option Code):Sep c g (h.lR n (lo Jc CI)) (.lp n lo Jc CI::Γ):=by
 have H:h.ob.get n=some (lo st pd):=S.hZ _ zai;have hn:=AH.lt_of_get S.ok H;refine S.change _ (AH.Ij S.ok hn _) (zad _) (fun f _ hf=>?_) ?_ (by simp [Ob.cS]) (fun b hb=>by simp [Ob.cS]at hb;subst hb;exact⟨hn,.inr (by simp [Ob.cS])⟩)
 · rw [AH.wa,if_neg (by simpa [Ob.cS]using hf)]
 · show(h.lR n (lo Jc CI)).ob.get n=_;rw [AH.wa,if_pos rfl]
theorem Sep.wO {n lo st pd K}(S:Sep c g h (.lp n lo st pd::Γ))(k:K h):wO lo n K h:=⟨⟨st,pd,S.hZ _ zai⟩,k⟩
theorem Sep.rQ {n lo pd K}(S:Sep c g h (.lp n lo .ready pd::Γ))(k:∀h',Sep c g h' (.lp n lo .busy pd::Γ)→K h'):rQ lo n K h:=⟨pd,S.hZ _ zai,k _ (S.Vl _ _)⟩
theorem Sep.lg {n lo st Jc pd CI b}(S:Sep c g h (.lp n lo st pd::Γ))(k:∀h',Sep c g h' (.lp n lo Jc CI::Γ)→R (.bool b) h'):lg lo n Jc CI b R h:=⟨⟨st,pd,S.hZ _ zai⟩,k _ (S.Vl _ _)⟩
theorem Sep.iH {K}:∀{d:List Nat}{h:AH},Sep c g h (.ds d::Γ)→(∀h',Sep c g h' Γ→K h')→Go.Ve.iH d K h
 | [],h,S,k=>k h S.drop
 | r::d,h,S,k=>by
  have H:∀x∈r::d,h.ob.get x=some (.defs false):=S.hZ _ zai;have hr:=H r zai;have hn:=AH.lt_of_get S.ok hr;have nd:(r::d).Nodup:=by have:=S.nd;rw [zaA]at this;exact(List.nodup_append.1 this).1
  refine⟨hr,Sep.iH (d:=d) (S.change _ (AH.Ij S.ok hn _) (zad _) (fun f _ hf=>?_) (fun x hx=>?_) (List.nodup_cons.1 nd).2 (fun b hb=>?_)) k⟩
  · rw [AH.wa,if_neg (fun e=>hf (by subst e;exact zai))]
  · rw [AH.wa,if_neg (fun e=>by subst e;exact(List.nodup_cons.1 nd).1 hx)];exact H x (zaj _ hx)
  · have dN:b∈d:=hb;exact⟨AH.lt_of_get S.ok (H b (zaj _ dN)),.inr (zaj _ dN)⟩
theorem Sep.Vm (S:Sep c g h Γ):Sep c g h (.ds []::Γ):=S.add _ S.ok (zad _) (fun _ _=>rfl) (fun r hr=>by simp at hr) (by simp [Ob.cS]) (fun b hb=>by simp [Ob.cS]at hb)
theorem Vn {α σ P w0 fv ca l d B E K}(bM:σ→α→Option (σ×Fl))(D:σ→AH→AH→List Ob→Prop){s0:σ}{r:σ×Fl}
 (It:Bj P w0 g fv ca l)
 (hD:∀s g h Γ g' h',D s g h Γ→Sub g g'→D s g' h' Γ)
 (S:Sep c g h (.ds d::Γ)) (D0:D s0 g h Γ) (M:rq bM l s0=some r)
 (body:∀(lo:LO) (n q:Nat) (s:σ) (x:α) (s':σ) (f:Fl) (R:Z→W) (g2 h2:AH) (Γ2:List Ob),Sub g g2→Sep c g2 h2 (.lp n lo .ready none:: .ds (q::d)::Γ2)→D s g2 h2 Γ2→bM s x=some (s',f)→
  (∀g3 h3 Γ3,Sub g2 g3→Sep c g3 h3 (.lp n lo f.st f.pd:: .ds (q::d)::Γ3)→D s' g3 h3 Γ3→R (.bool f.on) h3)→B lo n (ca x) R h2)
 (fin:∀(q:Nat) (g2 h2:AH) (Γ2:List Ob),Sub g g2→Sep c g2 h2 (.ds (q::d)::Γ2)→D r.1 g2 h2 Γ2→K q r.2.pd h2):Ev P w0 fv B E K h:=by
 obtain⟨_,id,first,dm,rfl,It⟩:=It;show rgC P w0 id first dm B (E h.nx) (K h.nx) (h.hY (.defs false))
 intro lo hB
 have S1:Sep c g (h.hY (.defs false)) (.ds (h.nx::d)::Γ):=by
  have H:∀x∈d,h.ob.get x=some (.defs false):=S.hZ _ zai;have nd:d.Nodup:=by have:=S.nd;rw [zaA]at this;exact(List.nodup_append.1 this).1
  refine S.change _ (AH.FG S.ok _) (za5 _) (fun f hf _=>(eK.hY h _).get f hf) (fun x hx=>?_) ?_ (fun b hb=>?_)
  · rcases List.mem_cons.1 hx with rfl | hx
    · rw [AH.xg,if_pos rfl]
    · have:=AH.lt_of_get S.ok (H x hx);rw [AH.xg,if_neg (by omega)];exact H x hx
  · exact List.nodup_cons.2 ⟨fun hm=>by have:=AH.lt_of_get S.ok (H _ hm);omega,nd⟩
  · rcases List.mem_cons.1 hb with rfl | hb
    · exact⟨zax _,.inl (zad _)⟩
    · exact⟨Nat.lt_succ_of_lt (AH.lt_of_get S.ok (H b hb)),.inr hb⟩
 have S2:Sep c g ((h.hY (.defs false)).hY (lo .ready none)) (.lp (h.hY (.defs false)).nx lo .ready none:: .ds (h.nx::d)::Γ):=by
  refine S1.add _ (AH.FG S1.ok _) (za5 _) (eK.hY _ _).get ?_ (by simp [Ob.cS]) (fun b hb=>by simp [Ob.cS]at hb;subst hb;exact⟨zax _,zad _⟩);show((h.hY (.defs false)).hY (lo .ready none)).ob.get _=_;rw [AH.xg,if_pos rfl]
 have D2:D s0 g ((h.hY (.defs false)).hY (lo .ready none)) Γ:=hD s0 g h Γ g _ D0 (.refl g);generalize hn:(h.hY (.defs false)).nx=n at*;generalize (h.hY (.defs false)).hY (lo .ready none)=h2 at*;refine It _ (fun i g2 hh=>∃s Γ2,Sub g g2∧Sep c g2 hh (.lp n lo .ready none:: .ds (h.nx::d)::Γ2)∧D s g2 hh Γ2∧rq bM (l.drop i) s=some r)
  (fun hh=>∃g2 Γ2,Sub g g2∧Sep c g2 hh (.lp n lo r.2.st r.2.pd:: .ds (h.nx::d)::Γ2)∧D r.1 g2 hh Γ2) _ g h2 (.refl g) ?_ ?_ ?_ ⟨s0,Γ,.refl _,S2,D2,by rw [zbB];exact M⟩ ?_ ?_
 · rintro i g2 ha g3 hb ⟨s,Γ2,h1,h3,h4,h5⟩ S';exact⟨s,Γ2,h1.trans S'.bF,h3.call S',hD s g2 ha Γ2 g3 hb h4 S'.bF,h5⟩
 · rintro i g2 ha ⟨s,Γ2,h1,h3,h4,h5⟩;exact⟨h3.sub,h3.ok⟩
 · rintro i x g2 ha E K' hx ⟨s,Γ2,h1,h3,h4,h5⟩ kt kf;have hi:i<l.length:=(List.getElem?_eq_some_iff.1 hx).1
   have hd:l.drop i=x::l.drop (i+1):=by
    rw [List.drop_eq_getElem_cons hi];congr 1;rw [zab hi]at hx;exact zaL hx
   rw [hd]at h5;unfold rq at h5;obtain⟨⟨s',f⟩,h6,h7⟩:=bind_some h5;refine WR.mono (fun rr hh hr=>?_) (hB n (ca x) K' ha (body lo n h.nx s x s' f K' g2 ha Γ2 h1 h3 h4 h6 fun g3 Ld Γ3 a1 a2 a3=>?_))
   · cases rr with
     | ret v=>exact hr
     | bC v=>exact hr.elim
   · cases f with
     | go=>exact kt g3 _ a1 ⟨s',Γ3,h1.trans a1,a2,a3,h7⟩
     | ret=>cases h7;exact kf _ ⟨g3,Γ3,h1.trans a1,a2,a3⟩
     | ex m=>cases h7;exact kf _ ⟨g3,Γ3,h1.trans a1,a2,a3⟩
 · rintro v g2 hh sg ⟨s,Γ2,h1,h3,h4,h5⟩;rw [List.drop_length]at h5;cases h5;refine⟨.ready,none,h3.hZ _ zai,rfl,?_⟩;exact fin h.nx g2 _ Γ2 h1 (h3.Vl .exhausted none).drop (hD _ g2 hh Γ2 g2 _ h4 (.refl _))
 · rintro v hh ⟨g2,Γ2,h1,h3,h4⟩;refine⟨r.2.st,r.2.pd,h3.hZ _ zai,by cases r.2<;>rfl,?_⟩;exact fin h.nx g2 _ Γ2 h1 (h3.Vl .exhausted r.2.pd).drop (hD _ g2 hh Γ2 g2 _ h4 (.refl _))
end
end
end Go.Ve
namespace Go.Ve
open Go.RowKit
section
variable {c:Cx}{g h g' h':AH}{Γ:List Ob}{o:Ob}
theorem Sep.f1 {a0 a1}(S:Sep c g h (a0::a1::Γ)):Sep c g h (a1::a0::Γ):=S.front 1 rfl rfl
theorem Sep.f2 {a0 a1 a2}(S:Sep c g h (a0::a1::a2::Γ)):Sep c g h (a2::a0::a1::Γ):=S.front 2 rfl rfl
theorem Sep.f3 {a0 a1 a2 a3}(S:Sep c g h (a0::a1::a2::a3::Γ)):Sep c g h (a3::a0::a1::a2::Γ):=S.front 3 rfl rfl
theorem Sep.f4 {a0 a1 a2 a3 a4}(S:Sep c g h (a0::a1::a2::a3::a4::Γ)):Sep c g h (a4::a0::a1::a2::a3::Γ):=S.front 4 rfl rfl
theorem Sep.f5 {a0 a1 a2 a3 a4 a5}(S:Sep c g h (a0::a1::a2::a3::a4::a5::Γ)):Sep c g h (a5::a0::a1::a2::a3::a4::Γ):=S.front 5 rfl rfl
theorem Sep.f6 {a0 a1 a2 a3 a4 a5 a6}(S:Sep c g h (a0::a1::a2::a3::a4::a5::a6::Γ)):Sep c g h (a6::a0::a1::a2::a3::a4::a5::Γ):=S.front 6 rfl rfl
theorem Sep.f7 {a0 a1 a2 a3 a4 a5 a6 a7}(S:Sep c g h (a0::a1::a2::a3::a4::a5::a6::a7::Γ)):Sep c g h (a7::a0::a1::a2::a3::a4::a5::a6::Γ):=S.front 7 rfl rfl
theorem Sep.f8 {a0 a1 a2 a3 a4 a5 a6 a7 a8}(S:Sep c g h (a0::a1::a2::a3::a4::a5::a6::a7::a8::Γ)):Sep c g h (a8::a0::a1::a2::a3::a4::a5::a6::a7::Γ):=S.front 8 rfl rfl
theorem Sep.f9 {a0 a1 a2 a3 a4 a5 a6 a7 a8 a9}(S:Sep c g h (a0::a1::a2::a3::a4::a5::a6::a7::a8::a9::Γ)):Sep c g h (a9::a0::a1::a2::a3::a4::a5::a6::a7::a8::Γ):=S.front 9 rfl rfl
theorem Sep.f10 {a0 a1 a2 a3 a4 a5 a6 a7 a8 a9 Y7}(S:Sep c g h (a0::a1::a2::a3::a4::a5::a6::a7::a8::a9::Y7::Γ)):Sep c g h (Y7::a0::a1::a2::a3::a4::a5::a6::a7::a8::a9::Γ):=S.front 10 rfl rfl
theorem Sep.t0 (S:Sep c g h Γ):Sep c g h []:=S.bO
theorem Sep.t1 {a0}(S:Sep c g h (a0::Γ)):Sep c g h [a0]:=S.take 1
theorem Sep.t2 {a0 a1}(S:Sep c g h (a0::a1::Γ)):Sep c g h [a0,a1]:=S.take 2
theorem Sep.t3 {a0 a1 a2}(S:Sep c g h (a0::a1::a2::Γ)):Sep c g h [a0,a1,a2]:=S.take 3
theorem Sep.t4 {a0 a1 a2 a3}(S:Sep c g h (a0::a1::a2::a3::Γ)):Sep c g h [a0,a1,a2,a3]:=S.take 4
theorem Sep.t5 {a0 a1 a2 a3 a4}(S:Sep c g h (a0::a1::a2::a3::a4::Γ)):Sep c g h [a0,a1,a2,a3,a4]:=S.take 5
theorem Sep.t6 {a0 a1 a2 a3 a4 a5}(S:Sep c g h (a0::a1::a2::a3::a4::a5::Γ)):Sep c g h [a0,a1,a2,a3,a4,a5]:=S.take 6
theorem Sep.t8 {a0 a1 a2 a3 a4 a5 a6 a7}(S:Sep c g h (a0::a1::a2::a3::a4::a5::a6::a7::Γ)):Sep c g h [a0,a1,a2,a3,a4,a5,a6,a7]:=S.take 8
theorem Sep.t10 {a0 a1 a2 a3 a4 a5 a6 a7 a8 a9}(S:Sep c g h (a0::a1::a2::a3::a4::a5::a6::a7::a8::a9::Γ)):Sep c g h [a0,a1,a2,a3,a4,a5,a6,a7,a8,a9]:=S.take 10
theorem Sep.ou (S:Sep c g h Γ)(S1:Sep ⟨g,h,[]⟩ g' h' []):Sep c g' h' Γ:=S.call S1
theorem Sep.aow (S:Sep c g h Γ)(S1:Sep ⟨g,h,[]⟩ g' h' [o]):Sep c g' h' (o::Γ):=S.call S1
end
end Go.Ve
namespace Go.Ve
open Go.RowKit
open Classical
noncomputable section
def iQ (l:ZZD):Prop:=l.Pairwise (· < ·)
def ow (x:Int):ZZD→ZZD | []=>[x] | y::l=>bif decide (x<y)then x::y::l else bif decide (x=y)then y::l else y::ow x l
theorem NA {x z}:∀{l:ZZD},z∈ow x l↔z=x∨z∈l
 | []=>by simp [ow]
 | y::l=>by
  unfold ow
  by_cases h1:x<y
  · rw [zac h1];simp
  · rw [zag h1]
    by_cases h2:x=y
    · rw [zac h2];subst h2;simp
    · rw [zag h2];show z∈y::ow x l↔_;rw [zal,NA,zal];constructor
      · rintro(h | h | h)<;>simp [h]
      · rintro(h | h | h)<;>simp [h]
theorem NB {x}:∀{l:ZZD},iQ l→iQ (ow x l)
 | [],_=>by simp [ow,iQ]
 | y::l,h=>by
  have h':=List.pairwise_cons.1 h;unfold ow
  by_cases h1:x<y
  · rw [zac h1]
    exact List.pairwise_cons.2 ⟨fun z hz=>by
     rcases List.mem_cons.1 hz with rfl | hz
     · exact h1
     · exact Int.lt_trans h1 (h'.1 z hz),h⟩
  · rw [zag h1]
    by_cases h2:x=y
    · rw [zac h2];exact h
    · rw [zag h2]
      exact List.pairwise_cons.2 ⟨fun z hz=>by
       rcases NA.1 hz with rfl | hz
       · omega
       · exact h'.1 z hz,NB h'.2⟩
theorem iQ.nd {l}(h:iQ l):l.Nodup:=h.imp fun h=>by omega
theorem iQ.ext:∀ {l m},iQ l→iQ m→(∀x,x∈l↔x∈m)→l=m
 | [],[],_,_,_=>rfl
 | [],y::m,_,_,h=>absurd ((h y).2 zai) (by simp)
 | x::l,[],_,_,h=>absurd ((h x).1 zai) (by simp)
 | x::l,y::m,hl,hm,h=>by
  have kS:=List.pairwise_cons.1 hl;have vJ:=List.pairwise_cons.1 hm
  have e:x=y:=by
   rcases List.mem_cons.1 ((h x).1 zai)with e | hx
   · exact e
   · rcases List.mem_cons.1 ((h y).2 zai)with e | hy
     · exact e.symm
     · have:=vJ.1 x hx;have:=kS.1 y hy;omega
  subst e;refine zan (x:: ·) (iQ.ext kS.2 vJ.2 fun z=>⟨fun hz=>?_,fun hz=>?_⟩)
  · rcases List.mem_cons.1 ((h z).1 (zaj _ hz))with rfl | oe
    · have:=kS.1 z hz;omega
    · exact oe
  · rcases List.mem_cons.1 ((h z).2 (zaj _ hz))with rfl | oe
    · have:=vJ.1 z hz;omega
    · exact oe
theorem aAZ {x l}(h:iQ l)(hx:x∈l):ow x l=l:=iQ.ext (NB h) h fun z=>by
 rw [NA];exact⟨fun hz=>hz.elim (fun e=>e▸hx) id,.inr⟩
theorem aA0 {l m:ZZD}(hl:l.Nodup)(hm:m.Nodup)(h:∀x,x∈l↔x∈m):l.Perm m:=(List.perm_ext_iff_of_nodup hl hm).2 h
theorem aA1 {x:Int}{l:ZZD}(h:iQ l)(hx:x∉l):(ow x l).Perm (x::l):=aA0 (NB h).nd (List.nodup_cons.2 ⟨hx,h.nd⟩) fun z=>by rw [NA,zal]
def jU (xs l:ZZD):ZZD:=xs.foldl (fun l x=>ow x l) l
theorem I9 {z}:∀{xs l:ZZD},z∈jU xs l↔z∈xs∨z∈l
 | [],l=>by simp [jU]
 | x::xs,l=>by
  show z∈jU xs (ow x l)↔_;rw [I9,NA,zal];constructor
  · rintro(h | h | h)<;>simp [h]
  · rintro((h | h) | h)<;>simp [h]
theorem Ja:∀ {xs l},iQ l→iQ (jU xs l)
 | [],_,h=>h
 | _::xs,_,h=>Ja (xs:=xs) (NB h)
theorem aA2 {xs ys l}(h:iQ l)(p:∀x,x∈xs↔x∈ys):jU xs l=jU ys l:=iQ.ext (Ja h) (Ja h) fun z=>by rw [I9,I9,p]
structure pb (es:List (Z×Z×Nat)) (cl:Nat) (l:ZZD):Prop where
 ks:∃ks:ZZD,ks.Perm l∧es.map (fun e=>(e.1,e.2.1))=ks.map fun k=>(vi k,Value.bool true)
 sD:iQ l
 st:(es.map fun e=>e.2.2).Nodup
 lt:∀e∈es,e.2.2<cl
theorem pb.nil:pb [] 0 []:=⟨⟨[],.refl _,rfl⟩,.nil,.nil,fun e h=>by simp at h⟩
theorem pb.len {es cl l}(H:pb es cl l):es.length=l.length:=by
 obtain⟨ks,h1,h2⟩:=H.ks;rw [←h1.length_eq];simpa using zan List.length h2
theorem aA3 (x y:Int):qk 0 (vi x) (vi y)=some (decide (x=y)):=by
 rw [←Ih];rfl
theorem aox {x}:∀{es:List (Z×Z×Nat)}{ks:ZZD}{cl:Nat},es.map (fun e=>(e.1,e.2.1))=ks.map (fun k=>(vi k,Value.bool true))→
 (x∈ks→∀k,vF 0 es (vi x) (.bool true) cl k=k es cl)∧(x∉ks→∀k,vF 0 es (vi x) (.bool true) cl k=k (es++[(vi x,.bool true,cl)]) (cl+1))
 | [],[],cl,_=>⟨fun h=>by simp at h,fun _ k=>by show fN (Nat.succ cl) _=_;rw [dG];rfl⟩
 | [],_::_,_,h=>by simp at h
 | _::_,[],_,h=>by simp at h
 | (a,v,n)::es,b::ks,cl,h=>by
  simp only [zaW,List.cons.injEq,Prod.mk.injEq]at h;obtain⟨⟨rfl,rfl⟩,ht⟩:=h
  have he:∀k,vF 0 ((vi b,.bool true,n)::es) (vi x) (.bool true) cl k=bif decide (x=b)then k ((vi x,.bool true,n)::es) cl else vF 0 es (vi x) (.bool true) cl (fun eJ nO=>k ((vi b,.bool true,n)::eJ) nO):=fun k=>by
   show(match qk 0 (vi x) (vi b)with | some true=>k ((vi x,.bool true,n)::es) cl | some false=>vF 0 es (vi x) (.bool true) cl (fun eJ nO=>k ((vi b,.bool true,n)::eJ) nO) | none=>false)=_;rw [aA3];cases decide (x=b)<;>rfl
  obtain⟨h1,h2⟩:=aox (x:=x) (cl:=cl) ht
  by_cases hx:x=b
  · subst hx;refine⟨fun _ k=>by rw [he,zac rfl];rfl,fun hn=>absurd zai hn⟩
  · refine⟨fun hm k=>?_,fun hn k=>?_⟩
    · rw [he,zag hx];exact h1 ((List.mem_cons.1 hm).resolve_left hx) _
    · rw [he,zag hx];exact h2 (fun h=>hn (zaj _ h)) _
theorem pb.nK {es cl l}(H:pb es cl l)(x:Int):∃eJ nO,pb eJ nO (ow x l)∧∀k,vF 0 es (vi x) (.bool true) cl k=k eJ nO:=by
 obtain⟨ks,h1,h2⟩:=H.ks;obtain⟨u1,u2⟩:=aox (x:=x) (cl:=cl) h2
 by_cases hx:x∈ks
 · refine⟨es,cl,?_,u1 hx⟩;rw [aAZ H.sD (h1.mem_iff.1 hx)];exact H
 · refine⟨_,_,⟨⟨ks++[x],?_,by simp [h2]⟩,NB H.sD,?_,fun e he=>?_⟩,u2 hx⟩
   · exact(List.perm_append_comm.trans (List.Perm.cons x h1)).trans (aA1 H.sD fun h=>hx (h1.mem_iff.2 h)).symm
   · rw [List.map_append];refine List.nodup_append.2 ⟨H.st,by simp,fun a ha b hb=>?_⟩;obtain⟨e,he,rfl⟩:=List.mem_map.1 ha;simp at hb;have:=H.lt e he;omega
   · rcases List.mem_append.1 he with he | he
     · have:=H.lt e he;omega
     · simp at he;subst he;exact zax _
def mI (g:AH) (v:Z) (l:ZZD):Prop:=(v= .map none∧l=[])∨∃b es cl,v= .map (some b)∧g.ob.get b=some (.map es cl)∧pb es cl l
theorem mI.nil {g}:mI g (.map none) []:=.inl ⟨rfl,rfl⟩
theorem mI.mono {g g' v l}(H:mI g v l)(S:Sub g g'):mI g' v l:=by
 rcases H with h | ⟨b,es,cl,h1,h2,h3⟩
 · exact .inl h
 · exact .inr ⟨b,es,cl,h1,S.get _ _ h2,h3⟩
theorem mI.one {g v l}(H:mI g v l):iA v=true:=by
 rcases H with⟨rfl,_⟩ | ⟨b,es,cl,rfl,_⟩<;>rfl
theorem mI.sD {g v l}(H:mI g v l):iQ l:=by
 rcases H with⟨_,rfl⟩ | ⟨b,es,cl,_,_,h⟩
 · exact .nil
 · exact h.sD
def lT:iW (ZZD):=fun g vs x=>∃v,vs=[v]∧mI g v x
theorem Bg:vh lT:=fun _ _ _ _ S ⟨v,h1,h2⟩=>⟨v,h1,h2.mono S⟩
section
variable {c:Cx}{g h:AH}{Γ:List Ob}{R:Value→AH→Prop}{b cl:Nat}{es:List (Value×Value×Nat)}{l:List Int}
theorem NC {r}(hr:h.ob.get r=some (.map es cl))(k:List (Z×Z×Nat)→Nat→Bool):o4 h r k=k es cl:=by
 unfold o4;rw [AT hr]
theorem aex {it m since last seen}(hi:h.ob.get it=some (.jD m since seen last))(k:Option Nat→Nat→List Nat→Nat→Bool):Co h it k=k m since seen last:=by
 unfold Co;rw [AT hi]
theorem Sep.smk (S:Sep c g h Γ)(K:∀b h',Sep c g h' (.mp b [] 0::Γ)→pb [] 0 []→R (.map (some b)) h'):WP .mkMap [] h R:=
 ayo.2 (K _ _ (S.add _ (AH.FG S.ok _) (za5 _) (eK.hY h _).get (by show(h.hY _).ob.get h.nx=_;rw [AH.xg,if_pos rfl]) (by simp [Ob.cS]) (fun b hb=>by simp [Ob.cS]at hb;subst hb;exact⟨zax _,zad _⟩)) pb.nil)
theorem Sep.aoy {x}(S:Sep c g h (.mp b es cl::Γ))(A:pb es cl l)(K:∀eJ nO h',Sep c g h' (.mp b eJ nO::Γ)→pb eJ nO (ow x l)→R undef h'):WP (.ye 0) [.map (some b),vi x,.bool true] h R:=by
 have hb:h.ob.get b=some (.map es cl):=S.hZ _ zai;have hn:=AH.lt_of_get S.ok hb;obtain⟨eJ,nO,h1,h2⟩:=A.nK x
 have key:∀k:KV,(Prim.ye 0).ev [.map (some b),vi x,.bool true] h k=k undef (h.lR b (.map eJ nO)):=fun k=>by
  show iff (K3 0 (vi x)) (o4 h b fun es cl=>vF 0 es (vi x) (.bool true) cl fun es cl=>kQ h b (some (.map es cl)) fun h=>k undef h)=_;rw [NC hb,h2,CH];rfl
 refine(ef key).2 (K eJ nO _ ?_ h1);refine S.change _ (AH.Ij S.ok hn _) (zad _) (fun f _ hf=>?_) ?_ (by simp [Ob.cS]) (fun b' dN=>by simp [Ob.cS]at dN;subst dN;exact⟨hn,.inr (by simp [Ob.cS])⟩)
 · rw [AH.wa,if_neg (by simpa [Ob.cS]using hf)]
 · show(h.lR b (.map eJ nO)).ob.get b=_;rw [AH.wa,if_pos rfl]
theorem aA4 (hb:h.ob.get b=some (.map es cl))(A:pb es cl l)(K:R (vi (l.length:Int)) h):WP .Ht [.map (some b)] h R:=by
 have key:∀k:KV,Prim.Ht.ev [.map (some b)] h k=k (vi (l.length:Int)) h:=fun k=>by
  show o4 h b (fun es _=>fN es.length fun n=>k (.int .i64 (.ofNat n)) h)=_;rw [NC hb,dG,A.len];rfl
 exact(ef key).2 K
theorem Sep.aoz {v}(S:Sep c g h Γ)(M:mI g v l)(K:R (vi (l.length:Int)) h):WP .Ht [v] h R:=by
 rcases M with⟨rfl,rfl⟩ | ⟨b,es,cl,rfl,h2,h3⟩
 · exact(ef (R:=R) (h:=h) (h':=h) (v:=vi 0) fun k=>by rfl).2 K
 · exact aA4 (S.sub.get _ _ h2) h3 K
theorem Sep.aA5 (S:Sep c g h (.mp b es cl::Γ))(A:pb es cl l):∃g',Sub g g'∧Sep c g' h Γ∧mI g' (.map (some b)) l:=by
 obtain⟨h1,h2,h3⟩:=S.freeze (b:=b) rfl;exact⟨_,h1,h2,.inr ⟨b,es,cl,rfl,h3.trans (S.hZ _ zai),A⟩⟩
end
section
variable {c:Cx}{g h:AH}{Γ:List Ob}
theorem Sep.aA6 {α:Type}{rep:iW α}{ty:TypeId}{sz:Nat}{v:Z}{ls:List (ZZE)}{l:List α}(S:Sep c g h (.sl ty sz v ls::Γ))(A:aw (rep g) ls l)(hm:vh rep):
    ∃g',Sub g g'∧Sub g' h∧aa rep sz g' v l∧∀g2 h2,Sep ⟨g',h,[]⟩ g2 h2 []→∃g3,Sub g g3∧Sep c g3 h2 (.sl ty sz v ls::Γ)∧∀w s,mI g2 w s→mI g3 w s:=by
  have O:iu h ty sz v ls:=S.hZ _ zai
  have key:∀{b lo hi:Nat}{dY:TypeId}{cc:NT Z}(g':AH),iP v=[b]→h.ob.get b=some (.cells lo hi dY true cc)→Sub g g'→Sep c g' h Γ→g'.ob.get b=h.ob.get b→
      ∀g2 h2,Sep ⟨g',h,[]⟩ g2 h2 []→∃g3,Sub g g3∧Sep c g3 h2 (.sl ty sz v ls::Γ)∧∀w s,mI g2 w s→mI g3 w s:=fun {b lo hi dY cc} g' hb hg sg S1 hgb g2 h2 S2=>by
    have S3:Sep c g2 h2 Γ:=by
      have:=S1.call S2
      rwa [zaU]at this
    have Gb:g.ob.get b=none:=(S.own b (by rw [zaA];exact zaO _ (show b∈iP v by rw [hb];simp))).2.1;have h2b:g2.ob.get b=some (.cells lo hi dY true cc):=S2.bF.get _ _ (hgb.trans hg);have kg:∀f,(g2.kill b).ob.get f=if f=b then none else g2.ob.get f:=AH.Un g2 b
    have xr:Sub g g2:=sg.trans S2.bF
    have s3:Sub g (g2.kill b):=⟨xr.nx,fun f x hx=>by
      rw [kg,if_neg (fun e=>by subst e;rw [Gb]at hx;cases hx)];exact xr.get f x hx⟩
    refine⟨g2.kill b,s3,⟨S.bF.trans s3,⟨S3.sub.nx,fun f x hx=>?_⟩,S3.ok,S3.nx,fun f h1 h2=>⟨(S3.old f h1 h2).1,fun hn=>?_⟩,fun o ho=>?_,S.nd,fun b' dN=>⟨za1 (S.own b' dN).1 S2.nx,?_,(S.own b' dN).2.2⟩⟩,fun w s hM=>?_⟩
    · rw [kg]at hx;split at hx
      · cases hx
      · exact S3.sub.get f x hx
    · rw [kg];split
      · rfl
      · exact(S3.old f h1 h2).2 hn
    · rcases List.mem_cons.1 ho with rfl | ho
      · exact iu.Nx O fun b' dN=>by
          rw [hb]at dN;obtain rfl:=List.mem_singleton.1 dN;rw [hg];exact S3.sub.get _ _ h2b
      · exact S3.hZ o ho
    · rw [kg];split
      · rfl
      · rename_i eM;rw [zaA]at dN;rcases List.mem_append.1 dN with h3 | h3
        · have h3:b'∈iP v:=h3;rw [hb]at h3;exact absurd (List.mem_singleton.1 h3) eM
        · exact(S3.own b' h3).2.1
    · rcases hM with hM | ⟨r,es,cl,e1,e2,e3⟩
      · exact .inl hM
      · refine .inr ⟨r,es,cl,e1,?_,e3⟩;rw [kg,if_neg (fun e=>by subst e;rw [h2b]at e2;cases e2)];exact e2
  cases O with
  | nil=>
    refine⟨g,.refl g,S.sub,⟨[],.nil,A⟩,fun g2 h2 S2=>⟨g2,S2.bF,?_,fun _ _ h=>h⟩⟩;have:=S.call S2
    rwa [zaU]at this
  | un b o n lo hi cc _ hn hb hg h1 h2 hr hs=>
    obtain⟨k1,k2,k3⟩:=S.freeze (b:=b) rfl;exact⟨_,k1,k2.sub,⟨ls,.mk b o n _ ls hn ⟨hb,.inr rfl⟩ hs (Ga k3 hr),A.mono fun x y hh=>hm _ _ _ _ k1 hh⟩,key _ rfl hg k1 k2 k3⟩
  | kn b o n cap lo hi dY cc _ hn hb hc hg h1 h2 hr hs=>
    obtain⟨k1,k2,k3⟩:=S.freeze (b:=b) rfl;exact⟨_,k1,k2.sub,⟨ls,.mk b o n cap ls hn ⟨by omega,.inl ⟨hb,hc⟩⟩ hs (Ga k3 hr),A.mono fun x y hh=>hm _ _ _ _ k1 hh⟩,key _ rfl hg k1 k2 k3⟩
end
theorem aoA:∀(l:List Nat) (n:Nat) (k:List Nat→Bool),LN l n k=k (l++[n])
 | [],_,_=>rfl
 | x::l,n,k=>aoA l n fun l'=>k (x::l')
theorem aey {since seen}:∀{es:List (Z×Z×Nat)}{k:List (Z×Z×Nat)→Bool},(∀e∈es,e.2.2<since)→AE es since seen k=k (es.filter fun e=> !decide (e.2.2∈seen))
 | [],_,_=>rfl
 | e::es,k,h=>by
  have h1:Nat.ble (Nat.succ e.2.2) since=true:=Nat.ble_eq_true_of_le (h e zai);have h2:yx seen e.2.2=decide (e.2.2∈seen):=by rw [acN];simp
  show iff (Nat.ble (Nat.succ e.2.2) since) (bif yx seen e.2.2 then AE es since seen k else AE es since seen fun l=>k (e::l))=_;rw [h1,h2]
  by_cases hm:e.2.2∈seen
  · rw [zac hm,List.filter_cons,zac hm];exact aey fun e he=>h e (zaj _ he)
  · rw [zag hm,List.filter_cons,zag hm];exact aey fun e he=>h e (zaj _ he)
theorem aoB {go}:∀{l:List (Z×Z×Nat)},(∀e∈l,go e.1 e.2.1 e.2.2=true)→Cp go l=true
 | [],_=>rfl
 | [(a,v,n)],h=>h (a,v,n) zai
 | (a,v,n)::e::l,h=>by
  show iff (go a v n) (Cp go (e::l))=true;rw [iff_eq];exact⟨h (a,v,n) zai,aoB fun e he=>h e (zaj _ he)⟩
theorem aoC:∀(l:List Nat) (n:Nat) (k:Nat→Bool),Fg (l++[n]) k=k n
 | [],_,_=>rfl
 | [x],_,_=>rfl
 | x::y::l,n,k=>aoC (y::l) n k
theorem aoD {a v n k}:∀{es:List (Z×Z×Nat)},(a,v,n)∈es→(es.map fun e=>e.2.2).Nodup→Cq es n k=k a v
  | (a',v',n')::es,hm,nd=>by
    have vj:=List.nodup_cons.1 nd;show(bif Nat.beq n' n then k a' v' else Cq es n k)=_;rcases List.mem_cons.1 hm with e | hm
    · cases e;rw [zbn];rfl
    · have:Nat.beq n' n=false:=by
        cases hb:Nat.beq n' n with
        | false=>rfl
        | true=>
          have e:=zar hb;subst e;exact absurd (List.mem_map.2 ⟨_,hm,rfl⟩) vj.1
      rw [this];exact aoD hm vj.2
section
variable {h:AH}{R:Value→AH→Prop}{it r cl:Nat}{es:List (Value×Value×Nat)}{seen:List Nat}
theorem aoE (kr:h.ob.get it=some (.jD (some r) cl seen cl))(hr:h.ob.get r=some (.map es cl))(hl:∀e∈es,e.2.2<cl)
 (K1:∀e∈es,e.2.2∉seen→R (.tuple ⟨[.bool true,e.1,e.2.1]⟩) (h.lR it (.jD (some r) cl (seen++[e.2.2]) cl)))
 (K0:(∀e∈es,e.2.2∈seen)→R (.tuple ⟨[.bool false]⟩) (h.kill it)):WP (.x .EJ) [ak it 0] h R:=by
 intro k hk
 show Co h it (fun m since seen last=>Option.casesOn (motive:=fun _=>Bool) m (k (.tuple ⟨[.bool false]⟩) h) fun r=>
  o4 h r fun es cl=>iff (Nat.beq cl since&&Nat.beq last since) (AE es since seen (Tv h it r since seen k)))=true
 rw [aex kr];show o4 h r (fun es nO=>iff (Nat.beq nO cl&&Nat.beq cl cl) (AE es cl seen (Tv h it r cl seen k)))=true;rw [NC hr,zbn,aey hl];show Tv h it r cl seen k _=true;have hm:∀e,e∈es.filter (fun e=> !decide (e.2.2∈seen))↔e∈es∧e.2.2∉seen:=fun e=>by simp
 generalize es.filter (fun e=> !decide (e.2.2∈seen))=l at hm;cases l with
 | nil=>
  show kQ h it none (fun h=>k (.tuple ⟨[.bool false]⟩) h)=true;rw [amc];exact hk _ _ (K0 fun e he=>Classical.byContradiction fun hn=>by simpa using (hm e).2 ⟨he,hn⟩)
 | cons e0 l0=>
  show Cp (Tu h it r cl seen k) (e0::l0)=true;refine aoB fun e he=>?_;obtain⟨h1,h2⟩:=(hm e).1 he;unfold Tu;rw [aoA,CH];exact hk _ _ (K1 e h1 h2)
theorem aA7 {n a v}(kr:h.ob.get it=some (.jD (some r) cl (seen++[n]) cl))(hr:h.ob.get r=some (.map es cl))(he:(a,v,n)∈es)(nd:(es.map fun e=>e.2.2).Nodup)(K:R (.tuple ⟨[a,v]⟩) h):
 WP (.x .entry) [ak it 0] h R:=by
 refine(ef (R:=R) (h:=h) (h':=h) (v:=.tuple ⟨[a,v]⟩) fun k=>?_).2 K
 show Co h it (fun m _ seen last=>Option.casesOn (motive:=fun _=>Bool) m false fun r=>
  o4 h r fun es cl=>iff (Nat.beq cl last) (Fg seen fun n=>Cq es n fun a v=>k (.tuple ⟨[a,v]⟩) h))=_
 rw [aex kr];show o4 h r (fun es nO=>iff (Nat.beq nO cl) (Fg (seen++[n]) fun n=>Cq es n fun a v=>k (.tuple ⟨[a,v]⟩) h))=_;rw [NC hr,zbn,aoC,aoD he nd];rfl
end
def Bh (e:Z×Z×Nat):Int:=match e.1 with | .int _ n=>n | _=>0
theorem pb.keys {es cl l}(H:pb es cl l):(es.map Bh).Perm l∧∀e∈es,e.1=vi (Bh e)∧e.2.1= .bool true:=by
 obtain⟨ks,h1,h2⟩:=H.ks
 have e1:es.map Bh=ks:=by
  have:(es.map (fun e=>(e.1,e.2.1))).map (fun p=>match p.1 with | .int _ n=>n | _=>(0:Int))=ks:=by
   rw [h2,List.map_map];exact List.map_id' ks
  rw [List.map_map]at this;exact this
 refine⟨by rw [e1];exact h1,fun e he=>?_⟩;have hm:(e.1,e.2.1)∈ks.map fun k=>(vi k,Value.bool true):=by rw [←h2];exact List.mem_map.2 ⟨e,he,rfl⟩
 obtain⟨k,_,hk⟩:=List.mem_map.1 hm;obtain⟨k1,k2⟩:=Prod.mk.inj hk;unfold Bh;rw [←k1];exact⟨rfl,k2.symm⟩
theorem aez {α β:Type}{f:α→β}:∀{l:List α},(l.map f).Nodup→∀x∈l,∀y∈l,f x=f y→x=y
 | a::l,nd,x,hx,y,hy,e=>by
  have vj:=List.nodup_cons.1 nd;rcases List.mem_cons.1 hx with h1 | hx<;>rcases List.mem_cons.1 hy with h2 | hy
  · rw [h1,h2]
  · exact absurd (List.mem_map.2 ⟨y,hy,by rw [←e,h1]⟩) vj.1
  · exact absurd (List.mem_map.2 ⟨x,hx,by rw [e,h2]⟩) vj.1
  · exact aez vj.2 x hx y hy e
theorem aoF {α:Type}{l m:List α}(hl:l.Nodup)(hm:m.Nodup)(h:∀x∈l,x∈m):(l++m.filter fun x=> !decide (x∈l)).Perm m:=by
 refine(List.perm_ext_iff_of_nodup (List.nodup_append.2 ⟨hl,hm.filter _,fun a ha b hb e=>?_⟩) hm).2 fun x=>?_
 · subst e;simp [ha]at hb
 · rw [zaT,zbp]
   by_cases hx:x∈l
   · simp [hx,h x hx]
   · simp [hx]
theorem aA8 {α:Type}{l m:List α}(hl:l.Nodup)(hm:m.Nodup)(h:∀x∈l,x∈m)(hn:m.length≤l.length):l.Perm m:=by
 have p:=aoF hl hm h;have e:=p.length_eq;rw [zaG]at e;have:(m.filter fun x=> !decide (x∈l))=[]:=List.length_eq_zero_iff.1 (by omega)
 rwa [this,zaS]at p
theorem aoG {α:Type}{l m:List α}(hl:l.Nodup)(hm:m.Nodup)(h:∀x∈l,x∈m):l.length≤m.length:=by
 have:=(aoF hl hm h).length_eq;rw [zaG]at this;omega
theorem aeA {α β:Type}{f:α→β}:∀{l:List α},(l.map f).Nodup→l.Nodup
 | [],_=>.nil
 | a::l,nd=>by
  have vj:=List.nodup_cons.1 nd;exact List.nodup_cons.2 ⟨fun h=>vj.1 (List.mem_map.2 ⟨a,h,rfl⟩),aeA vj.2⟩
section
variable {c:Cx}{g h:AH}{Γ:List Ob}
theorem Sep.unit {b a}(S:Sep c g h (.raw b a::Γ)):Sep c g (h.kill b) Γ:=by
 have hb:h.ob.get b=some a:=S.hZ _ zai;refine(S.change (.ds []) (AH.amb S.ok b) (zad _) (fun f _ hf=>?_) (fun r hr=>by simp at hr) (by simp [Ob.cS]) (fun b hb=>by simp [Ob.cS]at hb)).drop;rw [AH.Un,if_neg (by simpa [Ob.cS]using hf)]
theorem Sep.aA9 {b a}(S:Sep c g h (.raw b a::Γ))(a':AO):Sep c g (h.lR b a') (.raw b a'::Γ):=by
 have hb:h.ob.get b=some a:=S.hZ _ zai;have hn:=AH.lt_of_get S.ok hb;refine S.change _ (AH.Ij S.ok hn _) (zad _) (fun f _ hf=>?_) ?_ (by simp [Ob.cS]) (fun b' dN=>by simp [Ob.cS]at dN;subst dN;exact⟨hn,.inr (by simp [Ob.cS])⟩)
 · rw [AH.wa,if_neg (by simpa [Ob.cS]using hf)]
 · show(h.lR b a').ob.get b=_;rw [AH.wa,if_pos rfl]
theorem Sep.range {α:Type}{l:ZZD}{v:Z}(S:Sep c g h Γ)(M:mI g v l){F:Z→(α→W)→α→W}{B:Z→(α→W)→α→W}{X:Z→α→W}
    (hF:∀it k a,F it k a=pr (.x .EJ) [it] fun t=>pr (.extract 0) [t] fun c=>br c (B it k a) (X it a)){a0:α}(I:ZZD→α→AH→List Ob→Prop) (h0:I [] a0 g Γ)
    (step:∀(it:Z) (o:Ob) (k:α→W) (a:α) (g1 h1:AH) (Γ1:List Ob) (xs:ZZD) (x:Int),I xs a g1 Γ1→Sub g g1→x∈l→x∉xs→Sep c g1 h1 (o::Γ1)→(∀R:Z→AH→Prop,R (.tuple ⟨[vi x,.bool true]⟩) h1→WP (.x .entry) [it] h1 R)→
      (∀a' g2 h2 Γ2,Sub g1 g2→Sep c g2 h2 (o::Γ2)→I (xs++[x]) a' g2 Γ2→k a' h2)→B it k a h1)
    (fin:∀it a g1 h1 Γ1 xs,Sub g g1→xs.Perm l→I xs a g1 Γ1→Sep c g1 h1 Γ1→X it a h1):WP (.x .KN) [v] h fun it h=>LP (F it) a0 h:=by
  rcases M with⟨rfl,rfl⟩ | ⟨r,es,cl,rfl,hr,A⟩
  · refine(ef (h:=h) (h':=h.hY (.jD none 0 [] 0)) (v:=ak h.nx 0) fun k=>?_).2 ⟨1,?_⟩
    · show qs h (.jD none 0 [] 0) (fun b h=>k (ak b 0) h)=_;rw [Il]
    · show F (ak h.nx 0) (gg (F (ak h.nx 0)) 0) a0 _;rw [hF];have kr:(h.hY (.jD none 0 [] 0)).ob.get h.nx=some (.jD none 0 [] 0):=by rw [AH.xg,if_pos rfl]
      refine(ef (h:=h.hY (.jD none 0 [] 0)) (h':=h.hY (.jD none 0 [] 0)) (v:=.tuple ⟨[.bool false]⟩) fun k=>?_).2 ((fk (v:=.bool false) rfl).2 (show X (ak h.nx 0) a0 (h.hY (.jD none 0 [] 0))from fin _ a0 g _ Γ [] (.refl g) (.refl _) h0 (S.bt (eK.hY h _) (AH.FG S.ok _))));show Co (h.hY (.jD none 0 [] 0)) h.nx _=_;rw [aex kr]
  · have hrh:h.ob.get r=some (.map es cl):=S.sub.get _ _ hr;have Vh:=A.keys;have knd:(es.map Bh).Nodup:=Vh.1.nodup_iff.2 A.sD.nd;refine(ef (h:=h) (h':=h.hY (.jD (some r) cl [] cl)) (v:=ak h.nx 0) fun k=>?_).2 ⟨es.length+1,?_⟩
    · show o4 h r (fun _ cl=>qs h (.jD (some r) cl [] cl) fun b h=>k (ak b 0) h)=_;rw [NC hrh,Il]
    · have S1:Sep c g (h.hY (.jD (some r) cl [] cl)) (.raw h.nx (.jD (some r) cl [] cl)::Γ):=
        S.add _ (AH.FG S.ok _) (za5 _) (eK.hY h _).get (by show(h.hY _).ob.get h.nx=_;rw [AH.xg,if_pos rfl]) (by simp [Ob.cS]) (fun b hb=>by simp [Ob.cS]at hb;subst hb;exact⟨zax _,zad _⟩)
      generalize h.nx=it at S1
      have key:∀(m:Nat) (vl:List (Z×Z×Nat)) (a:α) (g1 h1:AH) (Γ1:List Ob),vl.length+m=es.length→vl.Nodup→(∀e∈vl,e∈es)→Sub g g1→I (vl.map Bh) a g1 Γ1→
          Sep c g1 h1 (.raw it (.jD (some r) cl (vl.map fun e=>e.2.2) cl)::Γ1)→gg (F (ak it 0)) (m+1) a h1:=by
        intro m
        induction m with
        | zero=>
          intro vl a g1 h1 Γ1 hlen Vi aM sg hI S1;show F (ak it 0) _ a h1;rw [hF];have vp:vl.Perm es:=aA8 Vi (aeA A.st) aM (by omega);refine aoE (S1.hZ _ zai) (S1.sub.get _ _ (sg.get _ _ hr)) A.lt (fun e he hs=>absurd (List.mem_map.2 ⟨e,vp.mem_iff.2 he,rfl⟩) hs) fun iz=>(fk rfl).2 ?_;exact fin _ a g1 _ Γ1 _ sg ((vp.map Bh).trans Vh.1) hI S1.unit
        | succ m ih=>
          intro vl a g1 h1 Γ1 hlen Vi aM sg hI S1;show F (ak it 0) _ a h1;rw [hF];refine aoE (S1.hZ _ zai) (S1.sub.get _ _ (sg.get _ _ hr)) A.lt (fun e he hs=>(fk rfl).2 ?_) fun iz=>(fk rfl).2 ?_
          · have he':=Vh.2 e he;have hnv:e∉vl:=fun h=>hs (List.mem_map.2 ⟨e,h,rfl⟩)
            have S2:=S1.aA9 (.jD (some r) cl ((vl.map fun e=>e.2.2)++[e.2.2]) cl);show B (ak it 0) _ a _;refine step _ _ _ a g1 _ Γ1 (vl.map Bh) (Bh e) hI sg (Vh.1.mem_iff.1 (List.mem_map.2 ⟨e,he,rfl⟩)) (fun h=>?_) S2 (fun R hR=>?_) (fun a' g2 h2 Γ2 xr S3 hI2=>?_)
            · obtain⟨e',he1,he2⟩:=List.mem_map.1 h;exact hnv (aez knd e' (aM e' he1) e he he2▸he1)
            · refine aA7 (a:=e.1) (v:=e.2.1) (n:=e.2.2) (S2.hZ _ zai) (S2.sub.get _ _ (sg.get _ _ hr)) he A.st ?_;rw [he'.1,he'.2];exact hR
            · refine ih (vl++[e]) a' g2 h2 Γ2 (by rw [zaG];simp;omega) ?_ ?_ (sg.trans xr) (by rw [List.map_append];exact hI2) (by rw [List.map_append];exact S3)
              · exact List.nodup_append.2 ⟨Vi,by simp,fun x hx y hy e'=>by simp at hy;subst hy;subst e';exact hnv hx⟩
              · intro x hx;rcases List.mem_append.1 hx with hx | hx
                · exact aM x hx
                · simp at hx;subst hx;exact he
          · have hes:∀e∈es,e∈vl:=fun e he=>by
              obtain⟨e',h1,h2⟩:=List.mem_map.1 (iz e he);exact aez A.st e' (aM e' h1) e he h2▸h1
            have:=aoG (aeA A.st) Vi hes;omega
      exact key es.length [] a0 g _ Γ (by simp) .nil (fun e he=>by simp at he) (.refl g) h0 S1
end
end
end Go.Ve
namespace Go.Ve.T
open Go.Ve Go.Proofs
noncomputable section
set_option maxRecDepth 10000
structure ah where
 aJ:Int
 fA:Int
 fB:Int
 fC:Int
deriving DecidableEq
def ah.rep:iW ah:=fun g vs x=>vs=[vi x.aJ,vi x.fA,vi x.fB,vi x.fC]
theorem ah.mono:vh ah.rep:=fun _ _ _ _ _ e=>e
theorem ah.one:One ah.rep 4:=fun g vs x e=>e▸⟨rfl,rfl⟩
structure al where
 dk:Int
 dO:Int
 bG:Int
deriving DecidableEq
def al.rep:iW al:=fun g vs x=>vs=[vi x.dk,vi x.dO,vi x.bG]
theorem al.mono:vh al.rep:=fun _ _ _ _ _ e=>e
theorem al.one:One al.rep 3:=fun g vs x e=>e▸⟨rfl,rfl⟩
structure ae where
 aC:ByteArray
 ay:ByteArray
 fArgs:Int
 aE:Int
 aD:Int
 ab:List ah
 aI:List al
deriving DecidableEq
def ae.rep:iW ae:=fun g vs x=>∃w1 w2:Z,vs=[.string x.aC,.string x.ay,vi x.fArgs,vi x.aE,vi x.aD,w1,w2]∧aa ah.rep 4 g w1 x.ab∧aa al.rep 3 g w2 x.aI
theorem ae.mono:vh (ae.rep):=fun _ _ _ _ S ⟨w1,w2,e,F1,F2⟩=>⟨w1,w2,e,aa.mono F1 ah.mono S,aa.mono F2 al.mono S⟩
structure aZ where
 ay:ByteArray
 kV:ZZD
 gh:ZZD
 kW:Int
deriving DecidableEq
def aZ.rep:iW aZ:=fun g vs x=>∃w1 w2:Z,vs=[.string x.ay,w1,w2,vi x.kW]∧aa (rI .i64) 1 g w1 x.kV∧aa (rI .i64) 1 g w2 x.gh
theorem aZ.mono:vh (aZ.rep):=fun _ _ _ _ S ⟨w1,w2,e,F1,F2⟩=>⟨w1,w2,e,aa.mono F1 (eD .i64) S,aa.mono F2 (eD .i64) S⟩
structure bD where
 aC:ByteArray
 ay:ByteArray
 fArgs:Int
 nZ:Bool
deriving DecidableEq
def bD.rep:iW bD:=fun g vs x=>vs=[.string x.aC,.string x.ay,vi x.fArgs,.bool x.nZ]
theorem bD.mono:vh bD.rep:=fun _ _ _ _ _ e=>e
structure aO where
 bE:List aZ
 bw:List bD
 bp:List ae
 bo:Int
 bn:Int
deriving DecidableEq
def aO.rep:iW aO:=fun g vs x=>∃w1 w2 w3:Z,vs=[w1,w2,w3,vi x.bo,vi x.bn]∧aa aZ.rep 4 g w1 x.bE∧aa bD.rep 4 g w2 x.bw∧aa ae.rep 7 g w3 x.bp
structure bB where
 cR:Int
 bG:Int
deriving DecidableEq
structure ox where
 e0:Int
 e1:Int
 e2:Int
deriving DecidableEq
structure Dp where
 e0:Int
 e1:Int
deriving DecidableEq
structure pq where
 ml:ByteArray
 cL:ox
 jx:Int
 dF:Dp
 jV:Bool
 jP:Bool
deriving DecidableEq
abbrev ZZA (x:ae) (a b:Value):List Value:=[.string x.aC,.string x.ay,vi x.fArgs,vi x.aE,vi x.aD,a,b]
abbrev ZZC (x:ah):List Value:=[vi x.aJ,vi x.fA,vi x.fB,vi x.fC]
abbrev ZZB (x:aO) (a b c:Value):List Value:=[a,b,c,vi x.bo,vi x.bn]
end
end Go.Ve.T
