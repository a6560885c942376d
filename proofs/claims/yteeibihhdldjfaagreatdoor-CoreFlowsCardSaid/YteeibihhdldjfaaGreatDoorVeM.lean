/- Part 13: MADE BY A PROGRAM (gen_litn.py): the functions as the evaluator takes them, and that they are what the translation says. No condition. And what follows it. -/
import Derived.Test.YteeibihhdldjfaaGreatDoorVeL
import Derived.Test.YteeibihhdldjfaaGreatDoorProg
import Derived.KernelRfl
set_option linter.unusedVariables false
set_option linter.unusedSimpArgs false
namespace Go.Ve.T
open Go.Ve Go.Proofs
noncomputable abbrev PP:Program:=Tryz.prog
theorem bT:PP.follows .mixedOrders=true:=by kernel_rfl
abbrev fc (f:Nat):Value:=.func (.func f) #[] #[]
abbrev bs (l:List UInt8):Value:=.string ⟨⟨l⟩⟩
abbrev o (d:Pos) (p:Prim) (a:List eL):bS:=⟨some d,.aU p,a,none⟩
abbrev m (d:Pos) (x:eL):bS:=⟨some d,.aU .move,[x],none⟩
def s0:Pos:=.xH
def s1:Pos:=.xO s0
def s2:Pos:=.xI s0
def s3:Pos:=.xO s1
def s4:Pos:=.xI s1
def s5:Pos:=.xO s2
def s6:Pos:=.xI s2
def s7:Pos:=.xO s3
def s8:Pos:=.xI s3
def s9:Pos:=.xO s4
def vY:Pos:=.xI s4
def MA:Pos:=.xO s5
def yP:Pos:=.xI s5
def yQ:Pos:=.xO s6
def Cv:Pos:=.xI s6
def Cw:Pos:=.xO s7
def tV:Pos:=.xI s7
def yR:Pos:=.xO s8
def Cy:Pos:=.xI s8
def Cz:Pos:=.xO s9
def CA:Pos:=.xI s9
def CB:Pos:=.xO vY
def CC:Pos:=.xI vY
def ug:Pos:=.xO MA
def CD:Pos:=.xI MA
def CE:Pos:=.xO yP
def CF:Pos:=.xI yP
def CG:Pos:=.xO yQ
def CH:Pos:=.xI yQ
def CI:Pos:=.xO Cv
def oC:Pos:=.xI Cv
def w7:Pos:=.xO Cw
def w8:Pos:=.xI Cw
def w9:Pos:=.xO tV
def zL:Pos:=.xI tV
def yI:Pos:=.xO yR
def CJ:Pos:=.xI yR
def CK:Pos:=.xO Cy
def Gl:Pos:=.xI Cy
def MB:Pos:=.xO Cz
def MC:Pos:=.xI Cz
def MD:Pos:=.xO CA
def D5:Pos:=.xI CA
def ME:Pos:=.xO CB
def MF:Pos:=.xI CB
def MG:Pos:=.xO CC
def MH:Pos:=.xI CC
def vX:Pos:=.xO ug
def n8:Pos:=.xI ug
def qN:Pos:=.xO CD
def MI:Pos:=.xI CD
def MJ:Pos:=.xO CE
def MK:Pos:=.xI CE
def ML:Pos:=.xO CF
def tc:Pos:=.xI CF
def MM:Pos:=.xO CG
def MN:Pos:=.xI CG
def s57:Pos:=.xO CH
def s58:Pos:=.xI CH
def s59:Pos:=.xO CI
def s60:Pos:=.xI CI
def s61:Pos:=.xO oC
def s62:Pos:=.xI oC
def s63:Pos:=.xO w7
def s64:Pos:=.xI w7
def s65:Pos:=.xO w8
def s66:Pos:=.xI w8
def s67:Pos:=.xO w9
def s68:Pos:=.xI w9
def s69:Pos:=.xO zL
def s70:Pos:=.xI zL
def s71:Pos:=.xO yI
def s72:Pos:=.xI yI
def s73:Pos:=.xO CJ
def s74:Pos:=.xI CJ
def s75:Pos:=.xO CK
def s76:Pos:=.xI CK
def s77:Pos:=.xO Gl
abbrev ZV:FuncId:=3
abbrev RD:FuncId:=12
abbrev P1:FuncId:=13
abbrev Po:FuncId:=14
abbrev QZ:FuncId:=15
abbrev Js:FuncId:=16
abbrev PZ:FuncId:=17
abbrev PS:FuncId:=18
abbrev Rz:FuncId:=19
abbrev Py:FuncId:=30
abbrev Q5:FuncId:=31
abbrev PA:FuncId:=38
abbrev Q7:FuncId:=39
abbrev JX:FuncId:=43
abbrev Jq:FuncId:=53
abbrev O6:FuncId:=54
abbrev JQ:FuncId:=55
abbrev JU:FuncId:=56
abbrev Eo:FuncId:=57
abbrev vZ:FuncId:=58
abbrev JW:FuncId:=59
abbrev PG:FuncId:=60
abbrev PK:FuncId:=61
abbrev Jv:FuncId:=62
abbrev Bv:FuncId:=63
abbrev Rg:FuncId:=64
abbrev vQ:FuncId:=75
abbrev vR:FuncId:=84
abbrev Je:FuncId:=86
abbrev Bn:FuncId:=87
abbrev Bu:FuncId:=88
abbrev Ep:FuncId:=89
abbrev Qx:FuncId:=92
abbrev OU:FuncId:=93
abbrev OM:FuncId:=100
abbrev I9:FuncId:=101
abbrev Jn:FuncId:=102
abbrev Pc:FuncId:=103
abbrev Jo:FuncId:=104
abbrev O1:FuncId:=105
abbrev O5:FuncId:=106
abbrev Zr:FuncId:=107
abbrev YN:FuncId:=120
abbrev Jd:FuncId:=121
abbrev Jc:FuncId:=123
abbrev Ja:FuncId:=124
abbrev OL:FuncId:=134
abbrev OZ:FuncId:=135
abbrev aic:FuncId:=154
abbrev Y0:FuncId:=155
noncomputable def aF (k:Nat):jD:=(ct PP k).getD ⟨0,[],.skip,false⟩
theorem dO {k:Nat}(h:(ct PP k).isSome=true):ct PP k=some (aF k):=by
 unfold aF
 cases hc:ct PP k with
 | none=>rw [hc]at h;cases h
 | some x=>rfl
theorem e3:ct PP 3=some (aF 3):=dO (by kernel_rfl)
theorem e4:ct PP 4=some (aF 4):=dO (by kernel_rfl)
theorem e5:ct PP 5=some (aF 5):=dO (by kernel_rfl)
theorem e6:ct PP 6=some (aF 6):=dO (by kernel_rfl)
theorem e7:ct PP 7=some (aF 7):=dO (by kernel_rfl)
theorem e8:ct PP 8=some (aF 8):=dO (by kernel_rfl)
theorem e9:ct PP 9=some (aF 9):=dO (by kernel_rfl)
theorem Mz:ct PP 10=some (aF 10):=dO (by kernel_rfl)
theorem e13:ct PP 13=some (aF 13):=dO (by kernel_rfl)
theorem e14:ct PP 14=some (aF 14):=dO (by kernel_rfl)
theorem e15:ct PP 15=some (aF 15):=dO (by kernel_rfl)
theorem e16:ct PP 16=some (aF 16):=dO (by kernel_rfl)
theorem e17:ct PP 17=some (aF 17):=dO (by kernel_rfl)
theorem e18:ct PP 18=some (aF 18):=dO (by kernel_rfl)
theorem e19:ct PP 19=some (aF 19):=dO (by kernel_rfl)
theorem e30:ct PP 30=some (aF 30):=dO (by kernel_rfl)
theorem e31:ct PP 31=some (aF 31):=dO (by kernel_rfl)
theorem e38:ct PP 38=some (aF 38):=dO (by kernel_rfl)
theorem e39:ct PP 39=some (aF 39):=dO (by kernel_rfl)
theorem e43:ct PP 43=some (aF 43):=dO (by kernel_rfl)
theorem e53:ct PP 53=some (aF 53):=dO (by kernel_rfl)
def Bp:jD:=⟨78,[.cell s2 none,.cell s3 none],(.seq (.ops [o s1 (.box 25) [.t s0],o s2 (.alloc 28 [cg]) [],o s3 (.alloc 4 [(.bool false)]) []]) (.seq (.ops [o vY (.buildSlice 3 1 [(vi 0)] [(0,1)]) [.c (vi (-1))],o MA (.fieldAddr 5) [.t s1],o yP (.aH) [.t MA],o yQ (.dG) [.t yP],⟨some Cv,(.call 105),[.t vY,.t yQ],none⟩,o s4 (.alloc 28 [cg]) [],⟨none,(.aU (.store 1)),[.t s4,.t Cv],none⟩]) (.seq (.ops [o Cw (.aH) [.t s4],o tV (.bG 1) [.t Cw,.c (vi 0)],⟨none,(.aU (.store 1)),[.t tV,.c (vi 0)],none⟩]) (.seq (.seq (.ops [o yR (.buildSlice 3 1 [(vi 0)] [(0,1)]) [.c (vi 0)],o s5 (.alloc 28 [cg]) [],⟨none,(.aU (.store 1)),[.t s5,.t yR],none⟩]) (.block 0 (.loop (.seq (.seq (.ops [o Cy (.aH) [.t s5],o Cz (.dG) [.t Cy],o CA (.aE .gtr) [.t Cz,.c (vi 0)]]) (.cond (.t CA) .skip (.exit 0))) (.seq (.block 1 (.seq (.ops [o ug (.aH) [.t s5],o CD (.bG 1) [.t ug,.c (vi 0)],o CE (.aH) [.t CD],o s6 (.alloc 3 [(vi 0)]) [],⟨none,(.aU (.store 1)),[.t s6,.t CE],none⟩]) (.seq (.ops [o CF (.bV 7) [.t s1],o CG (.aH) [.t s6],⟨some CH,(.call 86),[.t CF,.t CG],none⟩]) (.block 2 (.pU (.t CH) [CI,oC] (.seq (.ops [m s7 (.t CI)]) (.ops [m s8 (.t oC)])) (.block 3 (.seq (.draw [.op 0 (o w7 (.aH) [.t s4]),.op 1 (o w8 (.aH) [.t s6]),.op 2 (o w9 (.bG 1) [.t w7,.t w8]),.op 3 (o zL (.aH) [.t w9]),.op 4 (o yI (.fieldAddr 5) [.t s1]),.op 5 (o CJ (.aH) [.t yI]),.op 6 (o CK (.aH) [.t s6]),.op 7 (o Gl (.bG 4) [.t CJ,.t CK]),.op 8 (o MB (.bV 4) [.t Gl]),.op 9 (m MC (.t s8)),.op 10 (⟨some MD,(.call 106),[.t MB,.t MC],none⟩),.kR 3 (o zL (.aH) [.t w9]),.kR 2 (o w9 (.bG 1) [.t w7,.t w8]),.kR 1 (o w8 (.aH) [.t s6]),.kR 0 (o w7 (.aH) [.t s4]),.op 11 (o D5 (.aE .add) [.t zL,.t MD]),.op 12 (m s9 (.t D5))]) (.seq (.seq (.ops [m ME (.t s8),o MF (.aE .eql) [.t ME,.c (vi 2)]]) (.cond (.t MF) (.ops [m s9 (.c (vi 0))]) .skip)) (.seq (.seq (.ops [m MG (.t s9),⟨some MH,(.call 75),[.t MG,.c (vi 0),.c (vi 40)],none⟩,o vX (.ic) [.t MH],m n8 (.t vX),⟨some qN,(.aU (.aH)),[.t s4],some (n8,false)⟩,⟨some MI,(.aU (.move)),[.t s7],some (n8,false)⟩,⟨some MJ,(.aU (.bG 1)),[.t qN,.t MI],some (n8,false)⟩,⟨some MK,(.aU (.aH)),[.t MJ],some (n8,false)⟩,⟨some ML,(.aU (.aE .geq)),[.t MK,.c (vi 0)],some (n8,false)⟩,⟨some tc,(.aU (.move)),[.t ML],some (n8,false)⟩,⟨some MM,(.aU (.aH)),[.t s4],some (tc,true)⟩,⟨some MN,(.aU (.move)),[.t s7],some (tc,true)⟩,⟨some s57,(.aU (.bG 1)),[.t MM,.t MN],some (tc,true)⟩,⟨some s58,(.aU (.aH)),[.t s57],some (tc,true)⟩,⟨some s59,(.aU (.move)),[.t s9],some (tc,true)⟩,⟨some s60,(.aU (.aE .neq)),[.t s58,.t s59],some (tc,true)⟩,⟨some s61,(.aU (.pick)),[.t tc,.t s60,.c (.bool false)],some (n8,false)⟩,o s62 (.pick) [.t n8,.c (.bool true),.t s61]]) (.cond (.t s62) (.seq (.ops [⟨none,(.aU (.store 1)),[.t s2,.c cg],none⟩,⟨none,(.aU (.store 1)),[.t s3,.c (.bool false)],none⟩]) .ret) .skip)) (.seq (.ops [o s63 (.aH) [.t s4],m s64 (.t s7),o s65 (.bG 1) [.t s63,.t s64],o s66 (.aH) [.t s65],o s67 (.aE .lss) [.t s66,.c (vi 0)]]) (.cond (.t s67) (.seq (.ops [o s68 (.aH) [.t s4],m s69 (.t s7),m s70 (.t s9),o s71 (.bG 1) [.t s68,.t s69],⟨none,(.aU (.store 1)),[.t s71,.t s70],none⟩]) (.ops [o s72 (.aH) [.t s5],m s73 (.t s7),o s74 (.buildSlice 3 1 [(vi 0)] [(0,1)]) [.t s73],o s75 (.append 3 1 [(vi 0)]) [.t s72,.t s74],⟨none,(.aU (.store 1)),[.t s5,.t s75],none⟩])) .skip))))))))))) (.seq (.seq (.ops [o s76 (.aH) [.t s5]]) (.ops [o s5 (.alloc 28 [cg]) [],⟨none,(.aU (.store 1)),[.t s5,.t s76],none⟩])) (.ops [o CB (.aH) [.t s5],o CC (.slice 1 true false false) [.t CB,.c (vi 1)],⟨none,(.aU (.store 1)),[.t s5,.t CC],none⟩]))))))) (.seq (.ops [o s77 (.aH) [.t s4],⟨none,(.aU (.store 1)),[.t s2,.t s77],none⟩,⟨none,(.aU (.store 1)),[.t s3,.c (.bool true)],none⟩]) .ret))))),false⟩
theorem e54:ct PP 54=some Bp:=by kernel_rfl
theorem e55:ct PP 55=some (aF 55):=dO (by kernel_rfl)
theorem e56:ct PP 56=some (aF 56):=dO (by kernel_rfl)
theorem e57:ct PP 57=some (aF 57):=dO (by kernel_rfl)
theorem e58:ct PP 58=some (aF 58):=dO (by kernel_rfl)
theorem e59:ct PP 59=some (aF 59):=dO (by kernel_rfl)
def Ed:jD:=⟨57,[.tmp s6],(.seq (.ops [o s3 (.box 25) [.t s0],o s4 (.box 3) [.t s1],o s5 (.box 101) [.t s2],m s6 (.c (.map none))]) (.seq (.ops [o yQ (.mkMap) [],o s7 (.alloc 102 [(.map none)]) [],⟨none,(.aU (.store 1)),[.t s7,.t yQ],none⟩]) (.seq (.seq (.ops [o Cv (.bV 7) [.t s3],o Cw (.aH) [.t s4],⟨some tV,(.call 86),[.t Cv,.t Cw],none⟩]) (.block 0 (.pU (.t tV) [yR,Cy] (.seq (.ops [m s8 (.t yR)]) (.ops [m s9 (.t Cy)])) (.block 1 (.seq (.ops [o Cz (.aH) [.t s5],m CA (.t s8),o CB (.bG 1) [.t Cz,.t CA],o CC (.aH) [.t CB],o ug (.x .Eb) [.t CC]]) (.block 2 (.loop (.seq (.ops [o CD (.x .yJ) [.t ug],o CE (.extract 0) [.t CD]]) (.seq (.cond (.t CE) .skip (.exit 2)) (.block 3 (.seq (.ops [o CF (.x .entry) [.t ug],o CG (.extract 0) [.t CF],m vY (.t CG)]) (.seq (.ops [m CH (.t s9),o CI (.aE .eql) [.t CH,.c (vi 2)],m oC (.t CI),⟨some w7,(.aU (.move)),[.t vY],some (oC,false)⟩,⟨some w8,(.aU (.fieldAddr 5)),[.t s3],some (oC,false)⟩,⟨some w9,(.aU (.aH)),[.t w8],some (oC,false)⟩,⟨some zL,(.aU (.aH)),[.t s4],some (oC,false)⟩,⟨some yI,(.aU (.bG 4)),[.t w9,.t zL],some (oC,false)⟩,⟨some CJ,(.aU (.bV 4)),[.t yI],some (oC,false)⟩,⟨some CK,(.call 38),[.t CJ],some (oC,false)⟩,⟨some Gl,(.aU (.aE .neq)),[.t w7,.t CK],some (oC,false)⟩,o MB (.pick) [.t oC,.c (.bool true),.t Gl]]) (.cond (.t MB) (.ops [o MC (.aH) [.t s7],m MD (.t vY),⟨none,(.aU (.sk 0)),[.t MC,.t MD,.c (.bool true)],none⟩]) .skip))))))))))))) (.seq (.seq (.ops [o D5 (.fieldAddr 5) [.t s3],o ME (.aH) [.t D5],o MF (.aH) [.t s4],o MG (.bG 4) [.t ME,.t MF],o MH (.bV 4) [.t MG],⟨some vX,(.call 30),[.t MH],none⟩,o n8 (.dG) [.t vX],m qN (.c (vi 0))]) (.block 4 (.loop (.seq (.ops [o MI (.aE .lss) [.t qN,.t n8]]) (.seq (.cond (.t MI) .skip (.exit 4)) (.seq (.block 5 (.seq (.ops [o MJ (.bG 1) [.t vX,.t qN],o MK (.aH) [.t MJ],m yP (.t MK)]) (.ops [o ML (.aH) [.t s7],m tc (.t yP),⟨none,(.aU (.sk 0)),[.t ML,.t tc,.c (.bool true)],none⟩]))) (.ops [o MM (.aE .add) [.t qN,.c (vi 1)],m qN (.t MM)]))))))) (.seq (.ops [o MN (.aH) [.t s7],m s6 (.t MN)]) .ret))))),true⟩
theorem e60:ct PP 60=some Ed:=by kernel_rfl
theorem e61:ct PP 61=some (aF 61):=dO (by kernel_rfl)
theorem e62:ct PP 62=some (aF 62):=dO (by kernel_rfl)
theorem e63:ct PP 63=some (aF 63):=dO (by kernel_rfl)
theorem e64:ct PP 64=some (aF 64):=dO (by kernel_rfl)
theorem e75:ct PP 75=some (aF 75):=dO (by kernel_rfl)
theorem e84:ct PP 84=some (aF 84):=dO (by kernel_rfl)
theorem e86:ct PP 86=some (aF 86):=dO (by kernel_rfl)
theorem e87:ct PP 87=some (aF 87):=dO (by kernel_rfl)
theorem e88:ct PP 88=some (aF 88):=dO (by kernel_rfl)
theorem e89:ct PP 89=some (aF 89):=dO (by kernel_rfl)
theorem e92:ct PP 92=some (aF 92):=dO (by kernel_rfl)
theorem e93:ct PP 93=some (aF 93):=dO (by kernel_rfl)
theorem ahX:ct PP 100=some (aF 100):=dO (by kernel_rfl)
theorem ah1:ct PP 101=some (aF 101):=dO (by kernel_rfl)
theorem aip:ct PP 102=some (aF 102):=dO (by kernel_rfl)
theorem ait:ct PP 103=some (aF 103):=dO (by kernel_rfl)
theorem air:ct PP 104=some (aF 104):=dO (by kernel_rfl)
theorem aih:ct PP 105=some (aF 105):=dO (by kernel_rfl)
theorem aij:ct PP 106=some (aF 106):=dO (by kernel_rfl)
theorem anB:ct PP 120=some (aF 120):=dO (by kernel_rfl)
theorem ah8:ct PP 121=some (aF 121):=dO (by kernel_rfl)
theorem ah5:ct PP 123=some (aF 123):=dO (by kernel_rfl)
theorem ah3:ct PP 124=some (aF 124):=dO (by kernel_rfl)
theorem ahV:ct PP 134=some (aF 134):=dO (by kernel_rfl)
theorem aie:ct PP 135=some (aF 135):=dO (by kernel_rfl)
theorem aib:ct PP 155=some (aF 155):=dO (by kernel_rfl)
end Go.Ve.T
namespace Go.Ve
open Go.RowKit
noncomputable section
def Prim.Me:Prim→Bool
 | .move=>true
 | _=>false
theorem Prim.am0 {p:Prim}(h:p.Me=true):p= .move:=by
 unfold Prim.Me at h
 split at h
 · rfl
 · cases h
def Mf (P:Program) (w0:World) (act:kB) (vs:List Value) (E K:Value→W):W:=match act with
 | .aU p=>(match p.Me,vs with
  | true,[x]=>K x
  | _,vs=>pr p vs K)
 | .call f=>cl P w0 f vs E K
 | .dyn=>dy P w0 vs E K
 | .panic=>pn vs E
 | _=>fun _=>False
def Cl (P:Program) (w0:World) (o:bS) (σ:Sl) (E K:Value→W):W:=match o.guard with
 | none=>Mf P w0 o.act (o.args.map (fe σ)) E K
 | some (g,want)=>gd (σ g) want (fun k=>Mf P w0 o.act (o.args.map (fe σ)) E k) K
def Mg (P:Program) (w0:World):List bS→Sl→(Value→W)→(Sl→W)→W
 | [],σ,_,N=>N σ
 | o::l,σ,E,N=>Cl P w0 o σ E fun v=>Mg P w0 l (σ.gi o.dst v) E N
def Mh (p:Prim) (vs:List Value) (v:Value) (K:W):W:=bif p.makes then ckm p vs v K else ck p vs v K
def Mi (o:bS) (σ:Sl) (K:W):W:=match o.act,o.dst with
 | .aU p,some q=>(match o.guard with
  | none=>Mh p (o.args.map (fe σ)) (σ q) K
  | some (g,want)=>gk (σ g) want (fun k=>Mh p (o.args.map (fe σ)) (σ q) k) K)
 | _,_=>fun _=>False
def FX (P:Program) (w0:World):List kC→Sl→(Value→W)→(Sl→W)→W
 | [],σ,_,N=>N σ
 | .op _ o::l,σ,E,N=>Cl P w0 o σ E fun v=>FX P w0 l (σ.gi o.dst v) E N
 | .kR _ o::l,σ,E,N=>Mi o σ (FX P w0 l σ E N)
def FY:List Pos→Type
 | []=>Unit
 | [_]=>Value
 | _::q::ps=>Value×FY (q::ps)
def mm:(ps:List Pos)→Sl→FY ps
 | [],_=>()
 | [p],σ=>σ p
 | p::q::ps,σ=>(σ p,mm (q::ps) σ)
def u9:(ps:List Pos)→Sl→FY ps→Sl
 | [],σ,_=>σ
 | [p],σ,a=>σ.up p a
 | p::q::ps,σ,a=>(u9 (q::ps) σ a.2).up p a.1
def nl:dV→Nat
 | .seq a b=>nl a+nl b
 | .cond _ a b=>nl a+nl b
 | .block _ c=>nl c
 | .loop c=>nl c+1
 | _=>0
def cF (P:Program) (w0:World):dV→List (List Pos)→Sl→(Value→W)→(AX→Sl→W)→W
 | .skip,_,σ,_,X=>X .normal σ
 | .ops l,_,σ,E,X=>Mg P w0 l σ E (X .normal)
 | .draw l,_,σ,E,X=>FX P w0 l σ E (X .normal)
 | .seq a b,L,σ,E,X=>cF P w0 a L σ E fun x σ=>match x with
  | .normal=>cF P w0 b (L.drop (nl a)) σ E X
  | x=>X x σ
 | .cond c a b,L,σ,E,X=>br (fe σ c) (cF P w0 a L σ E X) (cF P w0 b (L.drop (nl a)) σ E X)
 | .block id c,L,σ,E,X=>cF P w0 c L σ E fun x σ=>match x with
  | .exit j=>bif Nat.beq j id then X .normal σ else X (.exit j) σ
  | x=>X x σ
 | .loop c,L,σ,E,X=>(match L with
  | ps::L=>LP (α:=FY ps) (fun k a=>cF P w0 c L (u9 ps σ a) E fun x σ=>match x with
   | .normal=>k (mm ps σ)
   | x=>X x σ) (mm ps σ)
  | []=>fun _=>False)
 | .pU _ _ _ _,_,_,_,_=>fun _=>False
 | .exit id,_,σ,_,X=>X (.exit id) σ
 | .ret,_,σ,_,X=>X .ret σ
def dL (D:Nat) (p:Pos):Bool:=D.testBit p.un
def FZ (D:Nat) (p:Pos):Nat:=D ^^^ (D &&& (1 <<< p.un))
def U5 (D:Nat):Option Pos→Nat
 | none=>D
 | some p=>FZ D p
def sV (D:Nat):Option Pos→Nat
 | none=>D
 | some p=>D ||| (1 <<< p.un)
def lI (D:Nat):List Pos→Nat
 | []=>D
 | p::ps=>lI (FZ D p) ps
def agree (D:Nat) (σ τ:Sl):Prop:=∀p,dL D p=false→σ p=τ p
theorem adu (p q:Pos):(1 <<< p.un).testBit q.un=decide (q=p):=by
 rw [Nat.one_shiftLeft,Nat.testBit_two_pow]
 exact decide_eq_decide.2 ⟨fun e=>(Pos.wa e).symm,fun e=>by rw [e]⟩
theorem Mj (A B:Nat) (p:Pos):dL (A ||| B) p=(dL A p||dL B p):=Nat.testBit_or ..
theorem adv (D:Nat) (p q:Pos):dL (FZ D p) q=(dL D q&& !decide (q=p)):=by
 unfold dL FZ
 rw [Nat.testBit_xor,Nat.testBit_and,adu]
 cases D.testBit q.un<;>cases decide (q=p)<;>rfl
theorem Cm (D:Nat) (p q:Pos):dL (sV D (some p)) q=(dL D q||decide (q=p)):=by
 unfold dL sV
 rw [Nat.testBit_or,adu]
theorem adw {q:Pos}:∀{ps:List Pos}{D:Nat},dL (lI D ps) q=(dL D q&& !decide (q∈ps))
 | [],D=>by simp [lI]
 | p::ps,D=>by
  rw [lI,adw,adv]
  by_cases e:q=p<;>simp [e]
theorem agree.or {A B:Nat}{σ τ:Sl}(h:agree A σ τ):agree (A ||| B) σ τ:=fun p hp=>h p (by rw [Mj,Bool.or_eq_false_iff]at hp;exact hp.1)
theorem agree.or' {A B:Nat}{σ τ:Sl}(h:agree B σ τ):agree (A ||| B) σ τ:=fun p hp=>h p (by rw [Mj,Bool.or_eq_false_iff]at hp;exact hp.2)
theorem Sl.wY (σ:Sl) (p q:Pos) (v:Value):σ.up p v q=if q=p then v else σ q:=by
 unfold Sl.up
 by_cases e:q=p
 · rw [if_pos e,Pos.beq_iff.2 e.symm];rfl
 · rw [if_neg e]
   cases h:p.beq q with
   | false=>rfl
   | true=>exact absurd (Pos.beq_iff.1 h).symm e
theorem agree.up {D:Nat}{σ τ:Sl}(h:agree D σ τ):∀(d:Option Pos) (v:Value),agree (U5 D d) (σ.gi d v) (τ.gi d v)
 | none,_=>h
 | some p,v=>fun q hq=>by
  show σ.up p v q=τ.up p v q
  rw [Sl.wY,Sl.wY]
  by_cases e:q=p
  · rw [if_pos e,if_pos e]
  · rw [if_neg e,if_neg e]
    refine h q ?_
    have hq:dL (FZ D p) q=false:=hq
    rw [adv]at hq
    simpa [e]using hq
structure Out where
 n:Option Nat
 r:Option Nat
 x:List (Nat×Nat)
def jO:Option Nat→Option Nat→Option Nat
 | none,b=>b
 | a,none=>a
 | some a,some b=>some (a ||| b)
def Cn (D:Nat):eL→Bool
 | .t p=> !dL D p
 | .c _=>true
def sW (D:Nat) (o:bS):Bool:=o.args.all (Cn D)&&(match o.guard with
 | none=>true
 | some (g,_)=> !dL D g)
def F0:List bS→Nat→Option Nat
 | [],D=>some D
 | o::l,D=>bif sW D o then F0 l (U5 D o.dst)else none
def zI:List kC→Nat→Option Nat
 | [],D=>some D
 | .op _ o::l,D=>bif sW D o then zI l (U5 D o.dst)else none
 | .kR _ o::l,D=>bif sW D o&&(match o.dst with
  | none=>true
  | some q=> !dL D q)then zI l D else none
def wZ:List bS→Nat→Nat
 | [],D=>D
 | o::l,D=>wZ l (sV D o.dst)
def rq:List kC→Nat→Nat
 | [],D=>D
 | .op _ o::l,D=>rq l (sV D o.dst)
 | .kR _ _::l,D=>rq l D
def wr:dV→Nat→Nat
 | .ops l,D=>wZ l D
 | .draw l,D=>rq l D
 | .seq a b,D=>wr b (wr a D)
 | .cond _ a b,D=>wr b (wr a D)
 | .block _ c,D=>wr c D
 | .loop c,D=>wr c D
 | _,D=>D
def vd (id:Nat):List (Nat×Nat)→Option Nat
 | []=>none
 | (j,D)::l=>bif Nat.beq j id then jO (some D) (vd id l)else vd id l
def Co (id:Nat):List (Nat×Nat)→List (Nat×Nat)
 | []=>[]
 | (j,D)::l=>bif Nat.beq j id then Co id l else(j,D)::Co id l
def Out.ofN:Option Nat→Option Out
 | none=>none
 | some D=>some ⟨some D,none,[]⟩
def am1 (ra:Out) (rb:Option Out):Option Out:=match rb with
 | none=>none
 | some rb=>some ⟨rb.n,jO ra.r rb.r,ra.x++rb.x⟩
def adx:Option Out→Option Out→Option Out
 | some ra,some rb=>some ⟨jO ra.n rb.n,jO ra.r rb.r,ra.x++rb.x⟩
 | _,_=>none
def am2 (id:Nat):Option Out→Option Out
 | none=>none
 | some r=>some ⟨jO r.n (vd id r.x),r.r,Co id r.x⟩
def ve (D:Nat):List Pos→Bool
 | []=>true
 | p::ps=> !dL D p&&ve D ps
def Cp (D:Nat):List Pos→Bool
 | []=>true
 | p::ps=>dL D p&&Cp D ps
def Mk (ps:List Pos) (D0:Nat):Option Out→Option Out
 | none=>none
 | some r=>(match r.n with
  | none=>some ⟨none,r.r,r.x⟩
  | some D1=>bif ve D1 ps&&Nat.beq (D1 ||| D0) D0 then some ⟨none,r.r,r.x⟩else none)
def jL:dV→List (List Pos)→Nat→Option Out
 | .skip,_,D=>some ⟨some D,none,[]⟩
 | .ops l,_,D=>Out.ofN (F0 l D)
 | .draw l,_,D=>Out.ofN (zI l D)
 | .seq a b,L,D=>(match jL a L D with
  | none=>none
  | some ra=>(match ra.n with
   | none=>some ra
   | some D1=>am1 ra (jL b (L.drop (nl a)) D1)))
 | .cond c a b,L,D=>bif Cn D c then adx (jL a L D) (jL b (L.drop (nl a)) D)else none
 | .block id c,L,D=>am2 id (jL c L D)
 | .loop c,L,D=>(match L with
  | []=>none
  | ps::L=>bif ve D ps&&Cp (wr c 0) ps then Mk ps (D ||| lI (wr c 0) ps) (jL c L (D ||| lI (wr c 0) ps))else none)
 | .exit id,_,D=>some ⟨none,none,[(id,D)]⟩
 | .ret,_,D=>some ⟨none,some D,[]⟩
 | .pU _ _ _ _,_,_=>none
def Out.at (r:Out) (x:AX) (D:Nat):Prop:=match x with
 | .normal=>r.n=some D
 | .ret=>r.r=some D
 | .exit id=>(id,D)∈r.x
 | .aT _=>False
theorem F4 {a b:Option Nat}{A:Nat}(h:a=some A):∃B,jO a b=some (A ||| B)∧(b=none→B=0):=by
 subst h
 cases b with
 | none=>exact⟨0,by simp [jO],fun _=>rfl⟩
 | some b=>exact⟨b,rfl,fun h=>by cases h⟩
theorem F5 {a b:Option Nat}{B:Nat}(h:b=some B):∃A,jO a b=some (A ||| B):=by
 subst h
 cases a with
 | none=>exact⟨0,by simp [jO]⟩
 | some a=>exact⟨a,rfl⟩
theorem Ml {p:Pos}:∀{l:List bS}{D:Nat},dL (wZ l D) p=(dL D p||dL (wZ l 0) p)
 | [],D=>by simp [wZ,dL]
 | o::l,D=>by
  rw [wZ,wZ,Ml,Ml (D:=sV 0 o.dst),←Bool.or_assoc]
  congr 1
  cases o.dst with
  | none=>simp [sV,dL]
  | some q=>rw [Cm,Cm];simp [dL]
theorem F6 {p:Pos}:∀{l:List kC}{D:Nat},dL (rq l D) p=(dL D p||dL (rq l 0) p)
 | [],D=>by simp [rq,dL]
 | .kR _ _::l,D=>by rw [rq,rq,F6]
 | .op _ o::l,D=>by
  rw [rq,rq,F6,F6 (D:=sV 0 o.dst),←Bool.or_assoc]
  congr 1
  cases o.dst with
  | none=>simp [sV,dL]
  | some q=>rw [Cm,Cm];simp [dL]
theorem am3 (p:Pos):dL 0 p=false:=by simp [dL]
theorem am4 {p:Pos}:∀(c:dV) (D:Nat),dL (wr c D) p=(dL D p||dL (wr c 0) p):=by
 intro c
 induction c with
 | ops l=>exact fun D=>Ml
 | draw l=>exact fun D=>F6
 | seq a b lH kZ=>intro D;simp only [wr];rw [kZ,kZ (wr a 0),lH,Bool.or_assoc]
 | cond c a b lH kZ=>intro D;simp only [wr];rw [kZ,kZ (wr a 0),lH,Bool.or_assoc]
 | block id c ih=>exact ih
 | loop c ih=>exact ih
 | _=>intro D;simp only [wr];rw [am3,Bool.or_false]
def dq (c:dV) (σ σ':Sl):Prop:=∀p,dL (wr c 0) p=false→σ' p=σ p
theorem Cq {a b:dV}{p:Pos}(h:dL (wr b (wr a 0)) p=false):dL (wr a 0) p=false∧dL (wr b 0) p=false:=by
 rw [am4]at h
 exact Bool.or_eq_false_iff.1 h
theorem U6 {D:Nat}{p:Pos}:∀{ps:List Pos},ve D ps=true→p∈ps→dL D p=false
 | q::ps,h,hp=>by
  rw [ve,Bool.and_eq_true]at h
  rcases List.mem_cons.1 hp with rfl | hp
  · simpa using h.1
  · exact U6 h.2 hp
theorem ady {D:Nat}{p:Pos}:∀{ps:List Pos},Cp D ps=true→p∈ps→dL D p=true
 | q::ps,h,hp=>by
  rw [Cp,Bool.and_eq_true]at h
  rcases List.mem_cons.1 hp with rfl | hp
  · exact h.1
  · exact ady h.2 hp
theorem U7 {σ τ:Sl}:∀{ps:List Pos},(∀p∈ps,σ p=τ p)→mm ps σ=mm ps τ
 | [],_=>rfl
 | [p],h=>h p (by simp)
 | p::q::ps,h=>by
  show(σ p,mm (q::ps) σ)=(τ p,mm (q::ps) τ)
  rw [h p (by simp),U7 fun x hx=>h x (List.mem_cons_of_mem _ hx)]
theorem adz {σ τ:Sl}{x:Pos}:∀{ps:List Pos},x∈ps→u9 ps σ (mm ps τ) x=τ x
 | [p],h=>by
  obtain rfl:=List.mem_singleton.1 h
  show σ.up x (τ x) x=τ x
  rw [Sl.wY,if_pos rfl]
 | p::q::ps,h=>by
  show(u9 (q::ps) σ (mm (q::ps) τ)).up p (τ p) x=τ x
  rw [Sl.wY]
  by_cases e:x=p
  · rw [if_pos e,e]
  · rw [if_neg e]
    exact adz ((List.mem_cons.1 h).resolve_left e)
theorem U8 {σ:Sl}{x:Pos}:∀{ps:List Pos}{a:FY ps},x∉ps→u9 ps σ a x=σ x
 | [],_,_=>rfl
 | [p],a,h=>by
  exact(Sl.wY σ p x a).trans (if_neg (by simpa using h))
 | p::q::ps,a,h=>by
  show(u9 (q::ps) σ a.2).up p a.1 x=σ x
  rw [Sl.wY,if_neg fun e=>h (by simp [e]),U8 fun hx=>h (List.mem_cons_of_mem _ hx)]
section
variable {P:Program}{w0:World}{e:Env}{d:DS}
theorem adA {D:Nat}{σ τ:Sl}(h:agree D σ τ){o:eL}(ho:Cn D o=true):fe σ o=fe τ o:=by
 cases o with
 | t p=>exact h p (by simpa [Cn]using ho)
 | c v=>rfl
theorem U9 {D:Nat}{σ τ:Sl}(h:agree D σ τ):∀{l:List eL},l.all (Cn D)=true→l.map (fe σ)=l.map (fe τ)
 | [],_=>rfl
 | o::l,hl=>by
  rw [List.all_cons,Bool.and_eq_true]at hl
  rw [List.map_cons,List.map_cons,U9 h hl.2,adA h hl.1]
theorem adB {D:Nat}{σ τ:Sl}(h:agree D σ τ){o:bS}(ho:sW D o=true){E K:Value→W}:Cl P w0 o σ E K=Cl P w0 o τ E K:=by
 obtain⟨dst,act,args,g⟩:=o
 rw [sW,Bool.and_eq_true]at ho
 unfold Cl
 simp only
 rw [U9 h ho.1]
 cases g with
 | none=>rfl
 | some pw =>
  obtain⟨g,want⟩:=pw
  have h2:dL D g=false:=by simpa using ho.2
  simp only [h g h2]
theorem adC {act:kB}{dst:Option Pos}{vs:List Value}{σ:Sl}{h:AH}{E K:Value→W}{Q:PQ}{K':Sl→DS→AH→Prop}(H:Mf P w0 act vs E K h) (hE:∀v h,E v h→Q (.aT v) σ d h) (hK:∀v h,K v h→K' (σ.gi dst v) d h):kK P w0 act dst e σ d h vs Q K':=by
 cases act with
 | aU p =>
  simp only [Mf]at H
  revert H
  cases hp:p.Me with
  | false=>exact fun H=>FV (e:=e) (Q:=Q) H hK
  | true =>
   match vs with
   | []=>exact fun H=>FV (e:=e) (Q:=Q) H hK
   | [x]=>intro H;rw [Prim.am0 hp];exact fun k hk=>hk _ _ (hK _ _ H)
   | _::_::_=>exact fun H=>FV (e:=e) (Q:=Q) H hK
 | call f=>exact L4 H hE hK
 | dyn=>exact amF H hE hK
 | panic=>exact amG H hE
 | _=>exact H.elim
theorem adD {o:bS}{σ:Sl}{h:AH}{E K:Value→W}{Q:PQ}{K':Sl→DS→AH→Prop}(H:Cl P w0 o σ E K h) (hE:∀v h,E v h→Q (.aT v) σ d h) (hK:∀v h,K v h→K' (σ.gi o.dst v) d h):wpOp P w0 o e σ d h Q K':=by
 obtain⟨dst,act,args,g⟩:=o
 cases g with
 | none=>exact adC H hE hK
 | some pw=>exact L5 rfl H (fun H=>adC H hE hK) hK
theorem am5 {E:Value→W}{N:Sl→W}{Q:PQ}(hE:∀v σ h,E v h→Q (.aT v) σ d h):∀{l:List bS}{D D':Nat}{σm σ:Sl}{h:AH},F0 l D=some D'→agree D σm σ→Mg P w0 l σm E N h→
 (∀σm' σ' h,agree D' σm' σ'→dq (.ops l) σm σm'→N σm' h→Q .normal σ' d h)→wpOps P w0 l e σ d h Q:=by
 intro l
 induction l with
 | nil =>
  intro D D' σm σ h hc ha H hN
  obtain rfl:=Option.some.inj hc
  exact hN _ _ _ ha (fun _ _=>rfl) H
 | cons o l ih =>
  intro D D' σm σ h hc ha H hN
  unfold F0 at hc
  cases ho:sW D o with
  | false=>rw [ho]at hc;cases hc
  | true =>
   rw [ho]at hc
   unfold Mg at H
   rw [adB ha ho]at H
   refine adD H (fun v h=>hE v σ h) fun v h H=>ih hc (ha.up o.dst v) H fun σm' σ' h h1 h2 h3=>hN _ _ _ h1 (fun p hp=> ?_) h3
   have hp:dL (wZ l (sV 0 o.dst)) p=false:=hp
   rw [Ml,Bool.or_eq_false_iff]at hp
   rw [h2 p hp.2]
   revert hp
   cases o.dst with
   | none=>exact fun _=>rfl
   | some q =>
    intro hp
    have h4:=hp.1
    rw [Cm,Bool.or_eq_false_iff]at h4
    show σm.up q v p=σm p
    rw [Sl.wY,if_neg (by simpa using h4.2)]
theorem am6 {D:Nat}{o:bS}{σm σ:Sl}{h:AH}{K:W}(ho:sW D o=true) (hd:(match o.dst with
 | none=>true
 | some q=> !dL D q)=true) (ha:agree D σm σ) (H:Mi o σm K h):zB o σ h∧K h:=by
 obtain⟨dst,act,args,g⟩:=o
 rw [sW,Bool.and_eq_true]at ho
 have e1:=U9 ha ho.1
 cases act with
 | aU p =>
  cases dst with
  | none=>exact H.elim
  | some q =>
   have e2:σm q=σ q:=ha q (by simpa using hd)
   have cc:Mh p (args.map (fe σ)) (σ q) K h→wP (.aU p) (some q) (args.map (fe σ)) σ h∧K h:=by
    unfold Mh wP
    simp only
    cases p.makes with
    | true=>exact id
    | false=>exact id
   cases g with
   | none =>
    simp only [Mi,e1,e2]at H
    exact cc H
   | some pw =>
    obtain⟨g,want⟩:=pw
    have e3:σm g=σ g:=ha g (by simpa using ho.2)
    simp only [Mi,e1,e2,e3]at H
    exact amH rfl H cc
 | _=>cases dst<;>exact H.elim
theorem am7 {E:Value→W}{N:Sl→W}{Q:PQ}(hE:∀v σ h,E v h→Q (.aT v) σ d h):∀{l:List kC}{D D':Nat}{σm σ:Sl}{h:AH},zI l D=some D'→agree D σm σ→FX P w0 l σm E N h→
 (∀σm' σ' h,agree D' σm' σ'→dq (.draw l) σm σm'→N σm' h→Q .normal σ' d h)→lG P w0 l e σ d h Q:=by
 intro l
 induction l with
 | nil =>
  intro D D' σm σ h hc ha H hN
  obtain rfl:=Option.some.inj hc
  exact hN _ _ _ ha (fun _ _=>rfl) H
 | cons o l ih =>
  intro D D' σm σ h hc ha H hN
  cases o with
  | kR i o =>
   unfold zI at hc
   cases ho:(sW D o&&(match o.dst with
    | none=>true
    | some q=> !dL D q))with
   | false=>rw [ho]at hc;cases hc
   | true =>
    rw [ho]at hc
    rw [Bool.and_eq_true]at ho
    have H2:=am6 ho.1 ho.2 ha H
    exact⟨H2.1,ih hc ha H2.2 hN⟩
  | op i o =>
   unfold zI at hc
   cases ho:sW D o with
   | false=>rw [ho]at hc;cases hc
   | true =>
    rw [ho]at hc
    unfold FX at H
    rw [adB ha ho]at H
    refine adD H (fun v h=>hE v σ h) fun v h H=>ih hc (ha.up o.dst v) H fun σm' σ' h h1 h2 h3=>hN _ _ _ h1 (fun p hp=> ?_) h3
    have hp:dL (rq l (sV 0 o.dst)) p=false:=hp
    rw [F6,Bool.or_eq_false_iff]at hp
    rw [h2 p hp.2]
    revert hp
    cases o.dst with
    | none=>exact fun _=>rfl
    | some q =>
     intro hp
     have h4:=hp.1
     rw [Cm,Bool.or_eq_false_iff]at h4
     show σm.up q v p=σm p
     rw [Sl.wY,if_neg (by simpa using h4.2)]
theorem adE {id D:Nat}:∀{l:List (Nat×Nat)}{j:Nat},(j,D)∈l→Nat.beq j id=true→∃G,vd id l=some G∧∀σ τ:Sl,agree D σ τ→agree G σ τ
 | (i,A)::l,j,hm,hj=>by
  rcases List.mem_cons.1 hm with e | hm
  · obtain⟨rfl,rfl⟩:=Prod.mk.inj e
    obtain⟨B,hB,_⟩:=F4 (a:=some D) (b:=vd id l) rfl
    exact⟨_,by rw [vd,hj];exact hB,fun σ τ h=>h.or⟩
  · obtain⟨G,h1,h2⟩:=adE hm hj
    cases hi:Nat.beq i id with
    | false=>exact⟨G,by rw [vd,hi];exact h1,h2⟩
    | true =>
     obtain⟨A',hA⟩:=F5 (a:=some A) h1
     exact⟨_,by rw [vd,hi];exact hA,fun σ τ h=>(h2 σ τ h).or'⟩
theorem adF {id D:Nat}:∀{l:List (Nat×Nat)}{j:Nat},(j,D)∈l→Nat.beq j id=false→(j,D)∈Co id l
 | (i,A)::l,j,hm,hj=>by
  rcases List.mem_cons.1 hm with e | hm
  · obtain⟨rfl,rfl⟩:=Prod.mk.inj e
    rw [Co,hj]
    exact List.mem_cons_self
  · have:=adF hm hj
    rw [Co]
    cases Nat.beq i id with
    | true=>exact this
    | false=>exact List.mem_cons_of_mem _ this
theorem am8 (bT:P.follows .mixedOrders=true):∀(c:dV){L:List (List Pos)}{D:Nat}{r:Out}{σm σ:Sl}{h:AH}{E:Value→W}{X:AX→Sl→W}{Q:PQ},jL c L D=some r→agree D σm σ→cF P w0 c L σm E X h→
 (∀v σ h,E v h→Q (.aT v) σ d h)→(∀x D' σm' σ' h,r.at x D'→agree D' σm' σ'→dq c σm σm'→X x σm' h→Q x σ' d h)→eO P w0 c e σ d h Q:=by
 intro c
 induction c with
 | skip =>
  intro L D r σm σ h E X Q hc ha H hE hX
  obtain rfl:=Option.some.inj hc
  exact hX .normal D _ _ _ rfl ha (fun _ _=>rfl) H
 | ops l =>
  intro L D r σm σ h E X Q hc ha H hE hX
  unfold jL at hc
  cases hD:F0 l D with
  | none=>rw [hD]at hc;cases hc
  | some D' =>
   rw [hD]at hc
   obtain rfl:=Option.some.inj hc
   exact am5 hE hD ha H fun σm' σ' h h1 h2 h3=>hX .normal D' _ _ _ rfl h1 h2 h3
 | draw l =>
  intro L D r σm σ h E X Q hc ha H hE hX
  unfold jL at hc
  cases hD:zI l D with
  | none=>rw [hD]at hc;cases hc
  | some D' =>
   rw [hD]at hc
   obtain rfl:=Option.some.inj hc
   exact am7 hE hD ha H fun σm' σ' h h1 h2 h3=>hX .normal D' _ _ _ rfl h1 h2 h3
 | seq a b lH kZ =>
  intro L D r σm σ h E X Q hc ha H hE hX
  unfold jL at hc
  cases hA:jL a L D with
  | none=>rw [hA]at hc;cases hc
  | some ra =>
   rw [hA]at hc
   simp only at hc
   cases hn:ra.n with
   | none =>
    rw [hn]at hc
    obtain rfl:=Option.some.inj hc
    refine lH hA ha H hE fun x D' σm' σ' h h1 h2 h3 h4=> ?_
    have hk:dq (.seq a b) σm σm':=fun p hp=>h3 p (Cq hp).1
    cases x with
    | normal=>exact absurd (hn.symm.trans h1) nofun
    | ret=>exact hX .ret D' _ _ _ h1 h2 hk h4
    | exit id=>exact hX (.exit id) D' _ _ _ h1 h2 hk h4
    | aT v=>exact h1.elim
   | some D1 =>
    rw [hn]at hc
    simp only at hc
    cases hB:jL b (L.drop (nl a)) D1 with
    | none=>rw [hB]at hc;cases hc
    | some rb =>
     rw [hB]at hc
     obtain rfl:=Option.some.inj hc
     refine lH hA ha H hE fun x D' σm' σ' h h1 h2 h3 h4=> ?_
     have hk:dq (.seq a b) σm σm':=fun p hp=>h3 p (Cq hp).1
     cases x with
     | normal =>
      obtain rfl:=Option.some.inj (hn.symm.trans h1)
      refine kZ hB h2 h4 hE fun x D' σm2 σ2 h g1 g2 g3 g4=> ?_
      have EZ:dq (.seq a b) σm σm2:=fun p hp=>(g3 p (Cq hp).2).trans (h3 p (Cq hp).1)
      cases x with
      | normal=>exact hX .normal D' _ _ _ g1 g2 EZ g4
      | ret =>
       obtain⟨A,hA⟩:=F5 (a:=ra.r) g1
       exact hX .ret _ _ _ _ hA g2.or' EZ g4
      | exit id=>exact hX (.exit id) D' _ _ _ (List.mem_append_right _ g1) g2 EZ g4
      | aT v=>exact g1.elim
     | ret =>
      obtain⟨B,hB,_⟩:=F4 (b:=rb.r) h1
      exact hX .ret _ _ _ _ hB h2.or hk h4
     | exit id=>exact hX (.exit id) D' _ _ _ (List.mem_append_left _ h1) h2 hk h4
     | aT v=>exact h1.elim
 | cond o a b lH kZ =>
  intro L D r σm σ h E X Q hc ha H hE hX
  unfold jL at hc
  cases ho:Cn D o with
  | false=>rw [ho]at hc;cases hc
  | true =>
   rw [ho]at hc
   have hc:adx (jL a L D) (jL b (L.drop (nl a)) D)=some r:=hc
   cases hA:jL a L D with
   | none=>rw [hA]at hc;cases hc
   | some ra =>
    cases hB:jL b (L.drop (nl a)) D with
    | none=>rw [hA,hB]at hc;cases hc
    | some rb =>
     rw [hA,hB]at hc
     obtain rfl:=Option.some.inj hc
     unfold cF at H
     rw [adA ha ho]at H
     refine vW rfl H (fun H=>lH hA ha H hE fun x D' σm' σ' h h1 h2 h3 h4=> ?_) (fun H=>kZ hB ha H hE fun x D' σm' σ' h h1 h2 h3 h4=> ?_)
     · have hk:dq (.cond o a b) σm σm':=fun p hp=>h3 p (Cq hp).1
       cases x with
       | normal =>
        obtain⟨B,hB,_⟩:=F4 (b:=rb.n) h1
        exact hX .normal _ _ _ _ hB h2.or hk h4
       | ret =>
        obtain⟨B,hB,_⟩:=F4 (b:=rb.r) h1
        exact hX .ret _ _ _ _ hB h2.or hk h4
       | exit id=>exact hX (.exit id) D' _ _ _ (List.mem_append_left _ h1) h2 hk h4
       | aT v=>exact h1.elim
     · have hk:dq (.cond o a b) σm σm':=fun p hp=>h3 p (Cq hp).2
       cases x with
       | normal =>
        obtain⟨A,hA⟩:=F5 (a:=ra.n) h1
        exact hX .normal _ _ _ _ hA h2.or' hk h4
       | ret =>
        obtain⟨A,hA⟩:=F5 (a:=ra.r) h1
        exact hX .ret _ _ _ _ hA h2.or' hk h4
       | exit id=>exact hX (.exit id) D' _ _ _ (List.mem_append_right _ h1) h2 hk h4
       | aT v=>exact h1.elim
 | block id c ih =>
  intro L D r σm σ h E X Q hc ha H hE hX
  unfold jL at hc
  cases hC:jL c L D with
  | none=>rw [hC]at hc;cases hc
  | some rc =>
   rw [hC]at hc
   obtain rfl:=Option.some.inj hc
   refine ih hC ha H hE fun x D' σm' σ' h h1 h2 h3 h4=> ?_
   cases x with
   | normal =>
    obtain⟨B,hB,_⟩:=F4 (b:=vd id rc.x) h1
    exact hX .normal _ _ _ _ hB h2.or h3 h4
   | ret=>exact hX .ret D' _ _ _ h1 h2 h3 h4
   | exit j =>
    have h4:(bif Nat.beq j id then X .normal σm' else X (.exit j) σm') h:=h4
    show bif Nat.beq j id then Q .normal σ' d h else Q (.exit j) σ' d h
    cases hj:Nat.beq j id with
    | true =>
     rw [hj]at h4
     obtain⟨G,hG,hm⟩:=adE h1 hj
     obtain⟨A,hA⟩:=F5 (a:=rc.n) hG
     exact hX .normal _ _ _ _ hA (hm _ _ h2).or' h3 h4
    | false =>
     rw [hj]at h4
     exact hX (.exit j) D' _ _ _ (adF h1 hj) h2 h3 h4
   | aT v=>exact h1.elim
 | loop c ih =>
  intro L D r σm σ h E X Q hc ha H hE hX
  cases L with
  | nil=>cases hc
  | cons ps L =>
   have hc:(bif ve D ps&&Cp (wr c 0) ps then Mk ps (D ||| lI (wr c 0) ps) (jL c L (D ||| lI (wr c 0) ps))else none)=some r:=hc
   cases gL:ve D ps&&Cp (wr c 0) ps with
   | false=>rw [gL]at hc;cases hc
   | true =>
    rw [gL]at hc
    have hc:Mk ps (D ||| lI (wr c 0) ps) (jL c L (D ||| lI (wr c 0) ps))=some r:=hc
    rw [Bool.and_eq_true]at gL
    cases hC:jL c L (D ||| lI (wr c 0) ps)with
    | none=>rw [hC]at hc;cases hc
    | some rc =>
     rw [hC]at hc
     have fit:∀σ',(∀p,dL (D ||| lI (wr c 0) ps) p=false→p∉ps→σm p=σ' p)→agree (D ||| lI (wr c 0) ps) (u9 ps σm (mm ps σ')) σ':=fun σ' hh p hp=>by
      by_cases hm:p∈ps
      · exact adz hm
      · rw [U8 hm];exact hh p hp hm
     have out:∀p,dL (D ||| lI (wr c 0) ps) p=false→p∉ps→dL D p=false∧dL (wr c 0) p=false:=fun p hp hm=>by
      rw [Mj,Bool.or_eq_false_iff,adw]at hp
      exact⟨hp.1,by simpa [hm]using hp.2⟩
     have Va:r.r=rc.r∧r.x=rc.x∧∀D1,rc.n=some D1→ve D1 ps=true∧Nat.beq (D1 ||| (D ||| lI (wr c 0) ps)) (D ||| lI (wr c 0) ps)=true:=by
      unfold Mk at hc
      simp only at hc
      cases hn:rc.n with
      | none =>
       rw [hn]at hc
       obtain rfl:=Option.some.inj hc
       exact⟨rfl,rfl,nofun⟩
      | some D1 =>
       rw [hn]at hc
       simp only at hc
       cases ht:ve D1 ps&&Nat.beq (D1 ||| (D ||| lI (wr c 0) ps)) (D ||| lI (wr c 0) ps)with
       | false=>rw [ht]at hc;cases hc
       | true =>
        rw [ht]at hc
        obtain rfl:=Option.some.inj hc
        exact⟨rfl,rfl,fun D2 h2=>by obtain rfl:=Option.some.inj h2;exact Bool.and_eq_true_iff.1 ht⟩
     obtain⟨n,H⟩:=H
     have key:∀n σh h,agree (D ||| lI (wr c 0) ps) (u9 ps σm (mm ps σh)) σh→eS (fun k a=>cF P w0 c L (u9 ps σm a) E fun x σ=>match x with
      | .normal=>k (mm ps σ)
      | x=>X x σ) n (mm ps σh) h→WC P w0 (.loop c) e σh d h Q:=by
      intro n
      induction n with
      | zero=>intro σh h _ H;exact H.elim
      | succ n ihn =>
       intro σh h hh H
       refine T6 bT (ih hC hh H hE fun x D' σm' σ' h h1 h2 h3 h4=> ?_)
       have hk:dq (.loop c) σm σm':=fun p hp=>(h3 p hp).trans (U8 fun hm=>by
        have:=ady gL.2 hm
        rw [show dL (wr c 0) p=false from hp]at this
        cases this)
       cases x with
       | normal =>
        obtain⟨q1,q2⟩:=Va.2.2 D' h1
        have e1:mm ps σm'=mm ps σ':=U7 fun p hp=>h2 p (U6 q1 hp)
        refine ihn σ' h (fit σ' fun p hp hm=> ?_) (e1▸h4)
        rw [←hk p (out p hp hm).2]
        refine h2 p ?_
        have e2:=Nat.eq_of_beq_eq_true q2
        rw [←e2,Mj,Bool.or_eq_false_iff]at hp
        exact hp.1
       | ret=>exact hX .ret D' _ _ _ (Va.1.trans h1) h2 hk h4
       | exit id=>exact hX (.exit id) D' _ _ _ (show(id,D')∈r.x by rw [Va.2.1];exact h1) h2 hk h4
       | aT v=>exact h1.elim
     have e0:mm ps σm=mm ps σ:=U7 fun p hp=>ha p (U6 gL.1 hp)
     exact key n σ h (fit σ fun p hp hm=>ha p (out p hp hm).1) (e0▸H)
 | pU f ps a b lH kZ =>
  intro L D r σm σ h E X Q hc
  cases hc
 | exit id =>
  intro L D r σm σ h E X Q hc ha H hE hX
  obtain rfl:=Option.some.inj hc
  exact hX (.exit id) D _ _ _ (List.mem_singleton.2 rfl) ha (fun _ _=>rfl) H
 | ret =>
  intro L D r σm σ h E X Q hc ha H hE hX
  obtain rfl:=Option.some.inj hc
  exact hX .ret D _ _ _ rfl ha (fun _ _=>rfl) H
def sX (D:Nat):List mN→Bool
 | []=>true
 | .tmp p::rs=> !dL D p&&sX D rs
 | .cell p _::rs=> !dL D p&&sX D rs
theorem F7 {D:Nat}{σ τ:Sl}(ha:agree D σ τ){h:AH}:∀{rs:List mN}{K:List Value→Prop},sX D rs=true→nS rs σ h K=nS rs τ h K
 | [],_,_=>rfl
 | .tmp p::rs,K,hd=>by
  rw [sX,Bool.and_eq_true]at hd
  unfold nS
  rw [ha p (by simpa using hd.1),F7 ha hd.2]
 | .cell p none::rs,K,hd=>by
  rw [sX,Bool.and_eq_true]at hd
  unfold nS
  rw [ha p (by simpa using hd.1)]
  congr 1
  funext v h'
  rw [F7 ha hd.2]
 | .cell p (some n)::rs,K,hd=>by
  rw [sX,Bool.and_eq_true]at hd
  unfold nS
  rw [ha p (by simpa using hd.1)]
  congr 1
  funext v h'
  rw [F7 ha hd.2]
def fnD (af:jD) (L:List (List Pos)):Bool:=match jL af.code L 0 with
 | none=>false
 | some r=>(match r.n with
  | none=>true
  | some D=>sX D af.results)&&(match r.r with
  | none=>true
  | some D=>sX D af.results)
theorem eC (bT:P.follows .mixedOrders=true){f:FuncId}{af:jD}(hf:ct P f=some af) (L:List (List Pos)) (hd:fnD af L=true){args:List Value}{h:AH}{R:CR→AH→Prop}
 (H:cF P w0 af.code L (LF args) (fun v h=>R (.aT v) h) (fun x σ h=>FP P w0 af.results R x σ ⟨[],.off⟩ h) h):WF P w0 f args h R:=by
 refine O7 bT hf ?_
 unfold fnD at hd
 cases hc:jL af.code L 0 with
 | none=>rw [hc]at hd;cases hd
 | some r =>
  rw [hc]at hd
  simp only [Bool.and_eq_true]at hd
  refine am8 bT af.code hc (fun _ _=>rfl) H (fun v σ h hv=>hv) fun x D' σm' σ' h h1 h2 _ h4=> ?_
  cases x with
  | normal =>
   have h5:sX D' af.results=true:=by have:=hd.1;rw [show r.n=some D' from h1]at this;exact this
   have h4:nS af.results σm' h fun vs=>R (.ret (zD vs)) h:=h4
   rw [F7 h2 h5]at h4
   exact h4
  | ret =>
   have h5:sX D' af.results=true:=by have:=hd.2;rw [show r.r=some D' from h1]at this;exact this
   have h4:nS af.results σm' h fun vs=>R (.ret (zD vs)) h:=h4
   rw [F7 h2 h5]at h4
   exact h4
  | exit id=>exact h4.elim
  | aT v=>exact h1.elim
end
end
end Go.Ve
namespace Go.Ve.T
open Go.Ve Go.Proofs
noncomputable section
set_option maxRecDepth 10000
def YJ (w0:World) (E R:Value→W) (x0 x1 x2:Value):W :=
 pr (.aE .leq) [x1,x0] fun v1 =>
 gd v1 true (fun k=>k x0) fun v2 =>
 gd v1 true (fun k=>k x2) fun v3 =>
 gd v1 true (fun k=>pr (.aE .leq) [v2,v3] k) fun v4 =>
 pr (.pick) [v1,v4,(.bool false)] fun v5 =>
 R v5
theorem ahT {w0:World}{h:AH}{Q:CR→AH→Prop}(x0 x1 x2:Value) (H:YJ w0 (fun v h=>Q (.aT v) h) (fun v h=>Q (.ret v) h) x0 x1 x2 h):WF PP w0 vQ [x0,x1,x2] h Q :=
 eC bT e75 [] (by kernel_rfl) (Eq.mp (by kernel_rfl) H)
def OI (w0:World) (E R:Value→W)  :W :=
 R (vi (-1))
def OJ (w0:World) (E R:Value→W) (y3:Value) (k2:Value→W):W :=
 pr (.aE .add) [y3,(vi 1)] fun v5 =>
 k2 v5
def OK (w0:World) (E R:Value→W) (x0 y3 x1:Value) (k2:Value→W):W :=
 pr (.bG 1) [x0,y3] fun v6 =>
 pr (.aH) [v6] fun v7 =>
 dy PP w0 [x1,v7] E fun v8 =>
 br v8 (
 R y3) (
 OJ w0 E R y3 k2)
def I5 (w0:World) (E R:Value→W) (v1 x0 x1:Value) (k2:Value→W) (y3:Value):W :=
 pr (.aE .lss) [y3,v1] fun v4 =>
 br v4 (
 OK w0 E R x0 y3 x1 k2) (
 OI w0 E R)
def YK (w0:World) (E R:Value→W) (x0 x1:Value):W :=
 pr (.dG) [x0] fun v1 =>
 LP (α:=Value) (fun k a=>I5 w0 E R v1 x0 x1 k a) ((vi 0))
theorem ahU {w0:World}{h:AH}{Q:CR→AH→Prop}(x0 x1:Value) (H:YK w0 (fun v h=>Q (.aT v) h) (fun v h=>Q (.ret v) h) x0 x1 h):WF PP w0 OL [x0,x1] h Q :=
 eC bT ahV [[s8]] (by kernel_rfl) (Eq.mp (by kernel_rfl) H)
def YL (w0:World) (E R:Value→W) (x0 x1:Value):W :=
 cl PP w0 OL [x0,x1] E fun v1 =>
 pr (.aE .geq) [v1,(vi 0)] fun v2 =>
 R v2
theorem ahW {w0:World}{h:AH}{Q:CR→AH→Prop}(x0 x1:Value) (H:YL w0 (fun v h=>Q (.aT v) h) (fun v h=>Q (.ret v) h) x0 x1 h):WF PP w0 OM [x0,x1] h Q :=
 eC bT ahX [] (by kernel_rfl) (Eq.mp (by kernel_rfl) H)
def YM (w0:World) (E R:Value→W) (x0 v1:Value):W :=
 cl PP w0 YN [] E fun v2 =>
 pr (.ON 35 9) [v2,x0] fun v3 =>
 pr (.store 9) [v1,v3] fun v4 =>
 ld (.bV 9) [v1] fun v5 =>
 R (.tuple ⟨[v5,(.bool true)]⟩)
def I6 (w0:World) (E R:Value→W) (v1 x0 v9:Value):W :=
 br v9 (
 pr (.build [(bs []),(vi 0),(vi 0),(vi 0),(vi 0),(vi 0),(vi 0),(.bool false),(.bool false)] []) [] fun v10 =>
 pr (.store 9) [v1,v10] fun v11 =>
 ld (.bV 9) [v1] fun v12 =>
 R (.tuple ⟨[v12,(.bool false)]⟩)) (
 YM w0 E R x0 v1)
def YO (w0:World) (E R:Value→W) (x0:Value):W :=
 pr (.alloc 138 [(bs []),(vi 0),(vi 0),(vi 0),(vi 0),(vi 0),(vi 0),(.bool false),(.bool false)]) [] fun v1 =>
 pr (.aE .lss) [x0,(vi 1)] fun v6 =>
 gd v6 false (fun k=>k x0) fun v7 =>
 gd v6 false (fun k=>pr (.aE .gtr) [v7,(vi 34)] k) fun v8 =>
 pr (.pick) [v6,(.bool true),v8] fun v9 =>
 I6 w0 E R v1 x0 v9
theorem ahY {w0:World}{h:AH}{Q:CR→AH→Prop}(x0:Value) (H:YO w0 (fun v h=>Q (.aT v) h) (fun v h=>Q (.ret v) h) x0 h):WF PP w0 vR [x0] h Q :=
 eC bT e84 [] (by kernel_rfl) (Eq.mp (by kernel_rfl) H)
def YP (w0:World) (E R:Value→W) (x0:Value):W :=
 pr (.box 67) [x0] fun v1 =>
 pr (.alloc 135 [(vi 0),(vi 0),(vi 0)]) [] fun v2 =>
 pr (.fieldAddr 1) [v1] fun v3 =>
 pr (.aH) [v3] fun v4 =>
 pr (.fieldAddr 2) [v1] fun v5 =>
 pr (.aH) [v5] fun v6 =>
 pr (.fieldAddr 3) [v1] fun v7 =>
 pr (.aH) [v7] fun v8 =>
 pr (.eo [1,1,1]) [v4,v6,v8] fun v9 =>
 pr (.store 3) [v2,v9] fun v10 =>
 ld (.bV 3) [v2] fun v11 =>
 R v11
theorem ahZ {w0:World}{h:AH}{Q:CR→AH→Prop}(x0:Value) (H:YP w0 (fun v h=>Q (.aT v) h) (fun v h=>Q (.ret v) h) x0 h):WF PP w0 Bn [x0] h Q :=
 eC bT e87 [] (by kernel_rfl) (Eq.mp (by kernel_rfl) H)
def OO (w0:World) (E R:Value→W) (y9:Value):W :=
 R y9
def I7 (w0:World) (E R:Value→W) (bB:Value) (dh:Value→Value→W) (aL:Value):W :=
 pr (.aE .add) [bB,(vi 1)] fun dQ =>
 dh aL dQ
def OP (w0:World) (E R:Value→W) (v11 bB v1 bK:Value) (dh:Value→Value→W):W :=
 pr (.tU 3) [v11,bB] fun c9 =>
 pr (.aE .eql) [c9,(vi 3)] fun cX =>
 br cX (
 pr (.bV 4) [v1] fun v20 =>
 cl PP w0 Bn [v20] E fun v21 =>
 pr (.tU 3) [v21,bB] fun dX =>
 pr (.buildSlice 3 1 [(vi 0)] [(0,1)]) [dX] fun dR =>
 pr (.append 3 1 [(vi 0)]) [bK,dR] fun v24 =>
 I7 w0 E R bB dh v24) (
 I7 w0 E R bB dh bK)
def I8 (w0:World) (E R:Value→W) (v11 v1:Value) (dh:Value→Value→W) (bK bB:Value):W :=
 pr (.aE .lss) [bB,(vi 3)] fun cx =>
 br cx (
 OP w0 E R v11 bB v1 bK dh) (
 OO w0 E R  bK)
def YQ (w0:World) (E R:Value→W) (x0:Value):W :=
 pr (.box 67) [x0] fun v1 =>
 pr (.fieldAddr 0) [v1] fun v2 =>
 pr (.aH) [v2] fun v3 =>
 cl PP w0 vR [v3] E fun v4 =>
 pr (.extract 0) [v4] fun v5 =>
 pr (.extract 1) [v4] fun v6 =>
 pr (.alloc 138 [(bs []),(vi 0),(vi 0),(vi 0),(vi 0),(vi 0),(vi 0),(.bool false),(.bool false)]) [] fun v7 =>
 pr (.store 9) [v7,v5] fun v8 =>
 pr (.fieldAddr 1) [v7] fun v10 =>
 pr (.bV 3) [v10] fun v11 =>
 LP (α:=Value×Value) (fun k a=>I8 w0 E R v11 v1 (fun b0 b1=>k (b0,b1)) a.1 a.2) (cg,(vi 0))
theorem ah0 {w0:World}{h:AH}{Q:CR→AH→Prop}(x0:Value) (H:YQ w0 (fun v h=>Q (.aT v) h) (fun v h=>Q (.ret v) h) x0 h):WF PP w0 I9 [x0] h Q :=
 eC bT ah1 [[s5,tV]] (by kernel_rfl) (Eq.mp (by kernel_rfl) H)
def YR (w0:World) (E R:Value→W) (x0 x1:Value):W :=
 pr (.box 79) [x0] fun v1 =>
 pr (.fieldAddr 0) [v1] fun v2 =>
 pr (.aH) [v2] fun v3 =>
 pr (.aH) [x1] fun v4 =>
 pr (.aE .leq) [v3,v4] fun v5 =>
 gd v5 true (fun k=>pr (.aH) [x1] k) fun v6 =>
 gd v5 true (fun k=>pr (.fieldAddr 1) [v1] k) fun v7 =>
 gd v5 true (fun k=>pr (.aH) [v7] k) fun v8 =>
 gd v5 true (fun k=>pr (.aE .lss) [v6,v8] k) fun v9 =>
 pr (.pick) [v5,v9,(.bool false)] fun v10 =>
 R v10
theorem ah2 {w0:World}{h:AH}{Q:CR→AH→Prop}(x0 x1:Value) (H:YR w0 (fun v h=>Q (.aT v) h) (fun v h=>Q (.ret v) h) x0 x1 h):WF PP w0 Ja [x0,x1] h Q :=
 eC bT ah3 [] (by kernel_rfl) (Eq.mp (by kernel_rfl) H)
def OQ (w0:World) (E R:Value→W)  :W :=
 R (vi (-1))
def OS (w0:World) (E R:Value→W) (y3:Value) (k2:Value→W):W :=
 pr (.aE .add) [y3,(vi 1)] fun v5 =>
 k2 v5
def OT (w0:World) (E R:Value→W) (x0 y3 x1:Value) (k2:Value→W):W :=
 pr (.bG 3) [x0,y3] fun v6 =>
 pr (.bV 3) [v6] fun v7 =>
 dy PP w0 [x1,v7] E fun v8 =>
 br v8 (
 R y3) (
 OS w0 E R y3 k2)
def Jb (w0:World) (E R:Value→W) (v1 x0 x1:Value) (k2:Value→W) (y3:Value):W :=
 pr (.aE .lss) [y3,v1] fun v4 =>
 br v4 (
 OT w0 E R x0 y3 x1 k2) (
 OQ w0 E R)
def YS (w0:World) (E R:Value→W) (x0 x1:Value):W :=
 pr (.dG) [x0] fun v1 =>
 LP (α:=Value) (fun k a=>Jb w0 E R v1 x0 x1 k a) ((vi 0))
theorem ah4 {w0:World}{h:AH}{Q:CR→AH→Prop}(x0 x1:Value) (H:YS w0 (fun v h=>Q (.aT v) h) (fun v h=>Q (.ret v) h) x0 x1 h):WF PP w0 Jc [x0,x1] h Q :=
 eC bT ah5 [[s8]] (by kernel_rfl) (Eq.mp (by kernel_rfl) H)
def YT (w0:World) (E R:Value→W) (x0 x1:Value):W :=
 pr (.box 25) [x0] fun v1 =>
 pr (.box 3) [x1] fun v2 =>
 pr (.fieldAddr 6) [v1] fun v3 =>
 pr (.aH) [v3] fun v4 =>
 pr (.yA (.func Ja) 0) [v2] fun v5 =>
 cl PP w0 Jc [v4,v5] E fun v6 =>
 R v6
theorem ah6 {w0:World}{h:AH}{Q:CR→AH→Prop}(x0 x1:Value) (H:YT w0 (fun v h=>Q (.aT v) h) (fun v h=>Q (.ret v) h) x0 x1 h):WF PP w0 OU [x0,x1] h Q :=
 eC bT e93 [] (by kernel_rfl) (Eq.mp (by kernel_rfl) H)
def OV (w0:World) (E R:Value→W) (x1 dQ x0 dX:Value):W :=
 br dX (
 pr (.fieldAddr 6) [x1] fun dR =>
 pr (.aH) [dR] fun v24 =>
 pr (.bG 3) [v24,dQ] fun gI =>
 pr (.fieldAddr 2) [gI] fun fi =>
 pr (.aH) [fi] fun eN =>
 dy PP w0 [x0,eN,(vi 2)] E fun v28 =>
 R (.tuple ⟨[]⟩)) (
 R (.tuple ⟨[]⟩))
def OW (w0:World) (E R:Value→W) (x1 x2 cm x0:Value):W :=
 pr (.bV 7) [x1] fun cx =>
 pr (.aH) [x2] fun cS =>
 cl PP w0 OU [cx,cS] E fun dQ =>
 pr (.fieldAddr 7) [cm] fun c9 =>
 pr (.aH) [c9] fun cX =>
 gd cX true (fun k=>k dQ) fun v20 =>
 gd cX true (fun k=>pr (.aE .geq) [v20,(vi 0)] k) fun v21 =>
 pr (.pick) [cX,v21,(.bool false)] fun dX =>
 OV w0 E R x1 dQ x0 dX
def YU (w0:World) (E R:Value→W) (yB:Value) (D3:Value→W):W :=
 pr (.aE .add) [yB,(vi 1)] fun j8 =>
 D3 j8
def YV (w0:World) (E R:Value→W) (v30 yB x0:Value) (D3:Value→W):W :=
 pr (.bG 1) [v30,yB] fun n3 =>
 pr (.aH) [n3] fun v37 =>
 dy PP w0 [x0,v37,(vi 1)] E fun kQ =>
 pr (.ic) [kQ] fun cH =>
 br cH (
 R (.tuple ⟨[]⟩)) (
 YU w0 E R yB D3)
def YW (w0:World) (E R:Value→W) (v31 v30 x0 x1 x2 cm:Value) (D3:Value→W) (yB:Value):W :=
 pr (.aE .lss) [yB,v31] fun jh =>
 br jh (
 YV w0 E R v30 yB x0 D3) (
 OW w0 E R x1 x2 cm x0)
def OX (w0:World) (E R:Value→W) (v6 x0 x1 x2 cm:Value):W :=
 pr (.bV 4) [v6] fun fO =>
 cl PP w0 I9 [fO] E fun v30 =>
 pr (.dG) [v30] fun v31 =>
 LP (α:=Value) (fun k a=>YW w0 E R v31 v30 x0 x1 x2 cm k a) ((vi 0))
def D4 (w0:World) (E R:Value→W) (v6 x0 x1 x2 cm j9:Value):W :=
 br j9 (
 R (.tuple ⟨[]⟩)) (
 OX w0 E R v6 x0 x1 x2 cm)
def OY (w0:World) (E R:Value→W) (x0 x2 v6 x1 cm v49:Value):W :=
 gd v49 true (fun k=>k x0) fun n4 =>
 gd v49 true (fun k=>pr (.aH) [x2] k) fun v51 =>
 gd v49 true (fun k=>pr (.aE .add) [v51,(vi 1)] k) fun kz =>
 gd v49 true (fun k=>dy PP w0 [n4,kz,(vi 0)] E k) fun v53 =>
 gd v49 true (fun k=>pr (.ic) [v53] k) fun lN =>
 pr (.pick) [v49,lN,(.bool false)] fun j9 =>
 D4 w0 E R v6 x0 x1 x2 cm j9
def YX (w0:World) (E R:Value→W) (x0 x1 x2:Value):W :=
 pr (.fieldAddr 5) [x1] fun v1 =>
 pr (.aH) [v1] fun v2 =>
 pr (.aH) [x2] fun v3 =>
 pr (.bG 4) [v2,v3] fun v4 =>
 pr (.bV 4) [v4] fun v5 =>
 pr (.alloc 67 [(vi 0),(vi 0),(vi 0),(vi 0)]) [] fun v6 =>
 pr (.store 4) [v6,v5] fun v7 =>
 pr (.fieldAddr 0) [v6] fun v8 =>
 pr (.aH) [v8] fun v9 =>
 cl PP w0 vR [v9] E fun v10 =>
 pr (.extract 0) [v10] fun v11 =>
 pr (.extract 1) [v10] fun v12 =>
 pr (.alloc 138 [(bs []),(vi 0),(vi 0),(vi 0),(vi 0),(vi 0),(vi 0),(.bool false),(.bool false)]) [] fun cm =>
 pr (.store 9) [cm,v11] fun cN =>
 pr (.fieldAddr 8) [cm] fun v40 =>
 pr (.aH) [v40] fun gn =>
 pr (.ic) [gn] fun jy =>
 gd jy true (fun k=>pr (.aH) [x2] k) fun jq =>
 gd jy true (fun k=>pr (.aE .add) [jq,(vi 1)] k) fun nA =>
 gd jy true (fun k=>pr (.fieldAddr 5) [x1] k) fun l7 =>
 gd jy true (fun k=>pr (.aH) [l7] k) fun v46 =>
 gd jy true (fun k=>pr (.dG) [v46] k) fun gp =>
 gd jy true (fun k=>pr (.aE .lss) [nA,gp] k) fun gq =>
 pr (.pick) [jy,gq,(.bool false)] fun v49 =>
 OY w0 E R x0 x2 v6 x1 cm v49
theorem ah7 {w0:World}{h:AH}{Q:CR→AH→Prop}(x0 x1 x2:Value) (H:YX w0 (fun v h=>Q (.aT v) h) (fun v h=>Q (.ret v) h) x0 x1 x2 h):WF PP w0 Jd [x0,x1,x2] h Q :=
 eC bT ah8 [[D5]] (by kernel_rfl) (Eq.mp (by kernel_rfl) H)
def YY (w0:World) (E R:Value→W) (x0 x1:Value):W :=
 pr (.box 25) [x0] fun v1 =>
 pr (.box 3) [x1] fun v2 =>
 pr (.yA (.func Jd) 0) [v1,v2] fun v3 =>
 R v3
theorem ah9 {w0:World}{h:AH}{Q:CR→AH→Prop}(x0 x1:Value) (H:YY w0 (fun v h=>Q (.aT v) h) (fun v h=>Q (.ret v) h) x0 x1 h):WF PP w0 Je [x0,x1] h Q :=
 eC bT e86 [] (by kernel_rfl) (Eq.mp (by kernel_rfl) H)
def YZ (w0:World) (E R:Value→W) (x0 x1:Value):W :=
 pr (.aE .and) [x0,(.int .u64 4294967295)] fun v1 =>
 pr (.aE .shr) [x0,(.int .u64 32)] fun v2 =>
 pr (.aE .and) [x1,(.int .u64 4294967295)] fun v3 =>
 pr (.aE .shr) [x1,(.int .u64 32)] fun v4 =>
 pr (.aE .mul) [v1,v3] fun v5 =>
 pr (.aE .mul) [v2,v3] fun v6 =>
 pr (.aE .shr) [v5,(.int .u64 32)] fun v7 =>
 pr (.aE .add) [v6,v7] fun v8 =>
 pr (.aE .and) [v8,(.int .u64 4294967295)] fun v9 =>
 pr (.aE .shr) [v8,(.int .u64 32)] fun v10 =>
 pr (.aE .mul) [v1,v4] fun v11 =>
 pr (.aE .add) [v9,v11] fun v12 =>
 pr (.aE .mul) [v2,v4] fun cm =>
 pr (.aE .add) [cm,v10] fun cN =>
 pr (.aE .shr) [v12,(.int .u64 32)] fun cx =>
 pr (.aE .add) [cN,cx] fun cS =>
 pr (.aE .mul) [x0,x1] fun dQ =>
 R (.tuple ⟨[cS,dQ]⟩)
theorem aia {w0:World}{h:AH}{Q:CR→AH→Prop}(x0 x1:Value) (H:YZ w0 (fun v h=>Q (.aT v) h) (fun v h=>Q (.ret v) h) x0 x1 h):WF PP w0 Y0 [x0,x1] h Q :=
 eC bT aib [] (by kernel_rfl) (Eq.mp (by kernel_rfl) H)
def Y1 (w0:World) (E R:Value→W) (x0 x1:Value):W :=
 cl PP w0 Y0 [x0,x1] E fun v1 =>
 pr (.extract 0) [v1] fun v2 =>
 pr (.extract 1) [v1] fun v3 =>
 R (.tuple ⟨[v2,v3]⟩)
def Y2 (w0:World) (E R:Value→W) (x0 x1:Value):W :=
 br (.bool false) (
 pr (.conv .u32) [x0] fun v4 =>
 pr (.conv .u32) [x1] fun v5 =>
 cl PP w0 aic [v4,v5] E fun v6 =>
 pr (.extract 0) [v6] fun v7 =>
 pr (.extract 1) [v6] fun v8 =>
 pr (.conv .u64) [v7] fun v9 =>
 pr (.conv .u64) [v8] fun v10 =>
 R (.tuple ⟨[v9,v10]⟩)) (
 Y1 w0 E R x0 x1)
theorem aid {w0:World}{h:AH}{Q:CR→AH→Prop}(x0 x1:Value) (H:Y2 w0 (fun v h=>Q (.aT v) h) (fun v h=>Q (.ret v) h) x0 x1 h):WF PP w0 OZ [x0,x1] h Q :=
 eC bT aie [] (by kernel_rfl) (Eq.mp (by kernel_rfl) H)
def Y3 (w0:World) (E R:Value→W) (v8:Value):W :=
 R v8
def Y4 (w0:World) (E R:Value→W) (v8 ep:Value) (jz:Value→W):W :=
 pr (.slice 1 true false false) [v8,ep] fun v12 =>
 pr (.slice 1 false true false) [v8,ep] fun cm =>
 pr (.copy 1) [v12,cm] fun cN =>
 ck (.move) [ep] ep (
 pr (.aE .add) [ep,cN] fun cx =>
 jz cx)
def Y5 (w0:World) (E R:Value→W) (v8:Value) (jz:Value→W) (ep:Value):W :=
 pr (.dG) [v8] fun cS =>
 pr (.aE .lss) [ep,cS] fun dQ =>
 br dQ (
 Y4 w0 E R v8 ep jz) (
 Y3 w0 E R v8)
def Y6 (w0:World) (E R:Value→W) (v6 x0:Value):W :=
 pr (.conv .i64) [v6] fun v7 =>
 pr (.mkSlice 3 1 [(vi 0)]) [v7,v7] fun v8 =>
 pr (.copy 1) [v8,x0] fun v9 =>
 LP (α:=Value) (fun k a=>Y5 w0 E R v8 k a) (v9)
def Y7 (w0:World) (E R:Value→W) (v6 x0 v21:Value):W :=
 br v21 (
 pr (.O0 9) [(bs [116,104,101,32,114,101,115,117,108,116,32,111,102,32,40,108,101,110,40,120,41,32,42,32,99,111,117,110,116,41,32,111,118,101,114,102,108,111,119,115])] fun dX =>
 pn [dX] E) (
 Y6 w0 E R v6 x0)
def Y8 (w0:World) (E R:Value→W) (x0 x1:Value):W :=
 pr (.dG) [x0] fun v1 =>
 pr (.conv .u64) [v1] fun v2 =>
 pr (.conv .u64) [x1] fun v3 =>
 cl PP w0 OZ [v2,v3] E fun v4 =>
 pr (.extract 0) [v4] fun v5 =>
 pr (.extract 1) [v4] fun v6 =>
 pr (.aE .gtr) [v5,(.int .u64 0)] fun c9 =>
 gd c9 false (fun k=>k v6) fun cX =>
 gd c9 false (fun k=>pr (.aE .gtr) [cX,(.int .u64 9223372036854775807)] k) fun v20 =>
 pr (.pick) [c9,(.bool true),v20] fun v21 =>
 Y7 w0 E R v6 x0 v21
def Y9 (w0:World) (E R:Value→W) (x0 x1:Value):W :=
 pr (.aE .lss) [x1,(vi 0)] fun dR =>
 br dR (
 pr (.O0 9) [(bs [99,97,110,110,111,116,32,98,101,32,110,101,103,97,116,105,118,101])] fun v24 =>
 pn [v24] E) (
 Y8 w0 E R x0 x1)
theorem aif {w0:World}{h:AH}{Q:CR→AH→Prop}(x0 x1:Value) (H:Y9 w0 (fun v h=>Q (.aT v) h) (fun v h=>Q (.ret v) h) x0 x1 h):WF PP w0 O1 [x0,x1] h Q :=
 eC bT aih [[s8]] (by kernel_rfl) (Eq.mp (by kernel_rfl) H)
def O2 (w0:World) (E R:Value→W)  :W :=
 R (vi 0)
def Jf (w0:World) (E R:Value→W) (y8:Value):W :=
 br y8 (
 R (vi (-1))) (
 O2 w0 E R)
def O3 (w0:World) (E R:Value→W) (v1 x1 cN:Value):W :=
 br cN (
 Jf w0 E R  cN) (
 pr (.fieldAddr 0) [v1] fun cx =>
 pr (.aH) [cx] fun cS =>
 pr (.aE .eql) [cS,(vi 32)] fun dQ =>
 gd dQ true (fun k=>k x1) fun c9 =>
 gd dQ true (fun k=>pr (.aE .eql) [c9,(vi 1)] k) fun cX =>
 pr (.pick) [dQ,cX,(.bool false)] fun v20 =>
 Jf w0 E R  v20)
def O4 (w0:World) (E R:Value→W) (v1 x1 v7:Value):W :=
 br v7 (
 R (vi 1)) (
 pr (.fieldAddr 0) [v1] fun v9 =>
 pr (.aH) [v9] fun v10 =>
 pr (.aE .eql) [v10,(vi 31)] fun v11 =>
 gd v11 true (fun k=>k x1) fun v12 =>
 gd v11 true (fun k=>pr (.aE .eql) [v12,(vi 0)] k) fun cm =>
 pr (.pick) [v11,cm,(.bool false)] fun cN =>
 O3 w0 E R v1 x1 cN)
def Za (w0:World) (E R:Value→W) (x0 x1:Value):W :=
 pr (.box 67) [x0] fun v1 =>
 pr (.fieldAddr 0) [v1] fun v2 =>
 pr (.aH) [v2] fun v3 =>
 pr (.aE .eql) [v3,(vi 30)] fun v4 =>
 gd v4 true (fun k=>k x1) fun v5 =>
 gd v4 true (fun k=>pr (.aE .eql) [v5,(vi 0)] k) fun v6 =>
 pr (.pick) [v4,v6,(.bool false)] fun v7 =>
 O4 w0 E R v1 x1 v7
theorem aii {w0:World}{h:AH}{Q:CR→AH→Prop}(x0 x1:Value) (H:Za w0 (fun v h=>Q (.aT v) h) (fun v h=>Q (.ret v) h) x0 x1 h):WF PP w0 O5 [x0,x1] h Q :=
 eC bT aij [] (by kernel_rfl) (Eq.mp (by kernel_rfl) H)
def Jg (w0:World) (E R:Value→W) (v9 v2 v3:Value) (d14:List Nat):W :=
 pr (.aH) [v9] fun cx =>
 pr (.store 1) [v2,cx] fun cS =>
 pr (.store 1) [v3,(.bool true)] fun dQ =>
 nB (d14) (
 ld (.aH) [v2] fun c9 =>
 ld (.aH) [v3] fun cX =>
 R (.tuple ⟨[c9,cX]⟩))
def Jh (w0:World) (E R:Value→W) (cT:Value) (n5:Value→List Nat→W) (d27:List Nat):W :=
 pr (.aH) [cT] fun v28 =>
 pr (.alloc 28 [cg]) [] fun fO =>
 pr (.store 1) [fO,v28] fun v30 =>
 pr (.aH) [fO] fun v31 =>
 pr (.slice 1 true false false) [v31,(vi 1)] fun l8 =>
 pr (.store 1) [fO,l8] fun mH =>
 n5 fO (d27)
def Ji (w0:World) (E R:Value→W) (v9 cL jA cT:Value) (nC:LO) (nD:Nat):W :=
 pr (.aH) [v9] fun gr =>
 pr (.bG 1) [gr,cL] fun tW =>
 pr (.aH) [tW] fun vS =>
 pr (.aE .lss) [vS,(vi 0)] fun sd =>
 br sd (
 pr (.aH) [v9] fun ft =>
 pr (.bG 1) [ft,cL] fun lO =>
 pr (.store 1) [lO,jA] fun yC =>
 pr (.aH) [cT] fun v70 =>
 pr (.buildSlice 3 1 [(vi 0)] [(0,1)]) [cL] fun n6 =>
 pr (.append 3 1 [(vi 0)]) [v70,n6] fun v72 =>
 pr (.store 1) [cT,v72] fun tX =>
 mI nC nD .ready none true R) (
 mI nC nD .ready none true R)
def D6 (w0:World) (E R:Value→W) (v9 cL v2 v3:Value) (nC:LO) (nD:Nat) (cT jA:Value):W :=
 cl PP w0 vQ [jA,(vi 0),(vi 40)] se fun qL =>
 pr (.ic) [qL] fun v75 =>
 gd v75 false (fun k=>pr (.aH) [v9] k) fun v76 =>
 gd v75 false (fun k=>k cL) fun sf =>
 gd v75 false (fun k=>pr (.bG 1) [v76,sf] k) fun vT =>
 gd v75 false (fun k=>pr (.aH) [vT] k) fun tY =>
 gd v75 false (fun k=>pr (.aE .geq) [tY,(vi 0)] k) fun v80 =>
 gd v75 false (fun k=>k v80) fun gw =>
 gd gw true (fun k=>pr (.aH) [v9] k) fun sh =>
 gd gw true (fun k=>k cL) fun tZ =>
 gd gw true (fun k=>pr (.bG 1) [sh,tZ] k) fun ua =>
 gd gw true (fun k=>pr (.aH) [ua] k) fun v85 =>
 gd gw true (fun k=>k jA) fun mJ =>
 gd gw true (fun k=>pr (.aE .neq) [v85,mJ] k) fun v87 =>
 gd v75 false (fun k=>pr (.pick) [gw,v87,(.bool false)] k) fun vU =>
 pr (.pick) [v75,(.bool true),vU] fun lP =>
 br lP (
 pr (.store 1) [v2,cg] fun yD =>
 pr (.store 1) [v3,(.bool false)] fun v91 =>
 mI nC nD .done (some .ret) false R) (
 Ji w0 E R v9 cL jA cT nC nD)
def Jj (w0:World) (E R:Value→W) (v9 v37 v1 v2 v3 cT:Value) (nC:LO) (nD:Nat) (cL mK:Value):W :=
 yE nC nD (
 qM nC nD (
 pr (.aH) [v9] fun v51 =>
 pr (.aH) [v37] fun kz =>
 pr (.bG 1) [v51,kz] fun v53 =>
 pr (.aH) [v53] fun lN =>
 pr (.fieldAddr 5) [v1] fun j9 =>
 pr (.aH) [j9] fun mL =>
 pr (.aH) [v37] fun l9 =>
 pr (.bG 4) [mL,l9] fun kA =>
 pr (.bV 4) [kA] fun v59 =>
 cl PP w0 O5 [v59,mK] se fun er =>
 ck (.aH) [v53] lN (
 ck (.bG 1) [v51,kz] v53 (
 ck (.aH) [v37] kz (
 ck (.aH) [v9] v51 (
 pr (.aE .add) [lN,er] fun n7 =>
 pr (.aE .eql) [mK,(vi 2)] fun ub =>
 br ub (
 D6 w0 E R v9 cL v2 v3 nC nD cT (vi 0)) (
 D6 w0 E R v9 cL v2 v3 nC nD cT n7)))))))
def Jk (w0:World) (E R:Value→W) (cT v1 v9 v2 v3:Value) (n5:Value→List Nat→W) (d26:List Nat):W :=
 pr (.aH) [cT] fun jh =>
 pr (.bG 1) [jh,(vi 0)] fun j8 =>
 pr (.aH) [j8] fun n3 =>
 pr (.alloc 3 [(vi 0)]) [] fun v37 =>
 pr (.store 1) [v37,n3] fun kQ =>
 pr (.bV 7) [v1] fun cH =>
 pr (.aH) [v37] fun v40 =>
 cl PP w0 Je [cH,v40] (cE (d26) E) fun gn =>
 D7 PP w0 gn (fun nC nD Zb R=>Jl (fun cL mK=>Jj w0 se R v9 v37 v1 v2 v3 cT nC nD cL mK) Zb) (fun oZ=>cE (oZ::d26) E) (fun oZ z45=>yF z45 (
 Jh w0 E R cT n5 (oZ::d26)) (
 nB (oZ::d26) (
 ld (.aH) [v2] fun v49 =>
 ld (.aH) [v3] fun n4 =>
 R (.tuple ⟨[v49,n4]⟩))) [])
def D8 (w0:World) (E R:Value→W) (v1 v9 v2 v3:Value) (n5:Value→List Nat→W) (cT:Value) (d25:List Nat):W :=
 pr (.aH) [cT] fun v93 =>
 pr (.dG) [v93] fun uc =>
 pr (.aE .gtr) [uc,(vi 0)] fun ud =>
 br ud (
 Jk w0 E R cT v1 v9 v2 v3 n5 (d25)) (
 Jg w0 E R v9 v2 v3 (d25))
def Zc (w0:World) (E R:Value→W) (x0:Value):W :=
 pr (.box 25) [x0] fun v1 =>
 pr (.alloc 28 [cg]) [] fun v2 =>
 pr (.alloc 4 [(.bool false)]) [] fun v3 =>
 pr (.buildSlice 3 1 [(vi 0)] [(0,1)]) [(vi (-1))] fun v4 =>
 pr (.fieldAddr 5) [v1] fun v5 =>
 pr (.aH) [v5] fun v6 =>
 pr (.dG) [v6] fun v7 =>
 cl PP w0 O1 [v4,v7] (cE (([]:List Nat)) E) fun v8 =>
 pr (.alloc 28 [cg]) [] fun v9 =>
 pr (.store 1) [v9,v8] fun v10 =>
 pr (.aH) [v9] fun v11 =>
 pr (.bG 1) [v11,(vi 0)] fun v12 =>
 pr (.store 1) [v12,(vi 0)] fun cm =>
 pr (.buildSlice 3 1 [(vi 0)] [(0,1)]) [(vi 0)] fun v20 =>
 pr (.alloc 28 [cg]) [] fun v21 =>
 pr (.store 1) [v21,v20] fun dX =>
 LP (α:=(Value)×List Nat) (fun k a=>D8 w0 E R v1 v9 v2 v3 (fun b0 q=>k ((b0),q)) a.1 a.2) ((v21),([]:List Nat))
theorem aik {w0:World}{h:AH}{Q:CR→AH→Prop}(x0:Value) (H:Zc w0 (fun v h=>Q (.aT v) h) (fun v h=>Q (.ret v) h) x0 h):WF PP w0 O6 [x0] h Q:=by
 let E:Value→W:=fun v h=>Q (.aT v) h
 let R:Value→W:=fun v h=>Q (.ret v) h
 refine O7 bT e54 ?_
 refine iv ?_
 refine fu ?_
 refine cj (vs:=[x0]) (by kernel_rfl) H fun v1 h H=> ?_
 refine cj (vs:=[]) (by kernel_rfl) H fun v2 h H=> ?_
 refine cj (vs:=[]) (by kernel_rfl) H fun v3 h H=> ?_
 refine fw ?_
 refine iw ?_
 refine iv ?_
 refine fu ?_
 refine cj (vs:=[(vi (-1))]) (by kernel_rfl) H fun v4 h H=> ?_
 refine cj (vs:=[v1]) (by kernel_rfl) H fun v5 h H=> ?_
 refine cj (vs:=[v5]) (by kernel_rfl) H fun v6 h H=> ?_
 refine cj (vs:=[v6]) (by kernel_rfl) H fun v7 h H=> ?_
 refine D9 (vs:=[v4,v7]) (by kernel_rfl) H (fun _ _ H=>Bo (P:=PP) (w0:=w0) Bp.results Q (([]:List Nat)) (by kernel_rfl) H) fun v8 h H=> ?_
 refine cj (vs:=[]) (by kernel_rfl) H fun v9 h H=> ?_
 refine cj (vs:=[v9,v8]) (by kernel_rfl) H fun v10 h H=> ?_
 refine fw ?_
 refine iw ?_
 refine iv ?_
 refine fu ?_
 refine cj (vs:=[v9]) (by kernel_rfl) H fun v11 h H=> ?_
 refine cj (vs:=[v11,(vi 0)]) (by kernel_rfl) H fun v12 h H=> ?_
 refine cj (vs:=[v12,(vi 0)]) (by kernel_rfl) H fun cm h H=> ?_
 refine fw ?_
 refine iw ?_
 refine yG (rs:=([]:List Nat)) (α:=Unit) [(s2,v2),(s3,v3),(s4,v9)] (fun a=>[]) (fun σ=>()) (fun a q=>Jg w0 E R v9 v2 v3  q) (fun σ=>trivial) (fun a1 d14 σ h H=> ?_) ?_
 · refine iv ?_
   refine fu ?_
   refine cj (vs:=[v9]) (by kernel_rfl) H fun cx h H=> ?_
   refine cj (vs:=[v2,cx]) (by kernel_rfl) H fun cS h H=> ?_
   refine cj (vs:=[v3,(.bool true)]) (by kernel_rfl) H fun dQ h H=> ?_
   refine fw ?_
   refine iw ?_
   exact O8 (P:=PP) (w0:=w0) Bp.results Q (d14) (by kernel_rfl) (Eq.mp (by kernel_rfl) H)
 · refine iv ?_
   refine fu ?_
   refine cj (vs:=[(vi 0)]) (by kernel_rfl) H fun v20 h H=> ?_
   refine cj (vs:=[]) (by kernel_rfl) H fun v21 h H=> ?_
   refine cj (vs:=[v21,v20]) (by kernel_rfl) H fun dX h H=> ?_
   refine fw ?_
   refine iw ?_
   refine si ?_
   refine Zd bT (rs:=([]:List Nat)) (α:=Value) [(s1,v1),(s2,v2),(s3,v3),(s4,v9)] (fun a=>[(s5,a)]) (fun σ=>(σ s5)) (fun k a=>D8 w0 E R v1 v9 v2 v3 (fun b0 q=>k ((b0),q)) a.1 a.2) (fun σ=>(And.intro rfl trivial)) (fun Ze a2 d25 σ h H=> ?_) (x:=(v21)) (by kernel_rfl) (Eq.mp (by kernel_rfl) (And.intro (Eq.refl (v1:Value)) (And.intro (Eq.refl (v2:Value)) (And.intro (Eq.refl (v3:Value)) (And.intro (Eq.refl (v9:Value)) trivial))))) H
   refine yG (rs:=d25) (α:=Unit) [(s1,v1),(s2,v2),(s3,v3),(s4,v9),(s5,a2)] (fun a=>[]) (fun σ=>()) (fun a q=>Jk w0 E R a2 v1 v9 v2 v3 (fun b0 q=>Ze ((b0),q))  q) (fun σ=>trivial) (fun a3 d26 σ h H=> ?_) ?_
   · refine yG (rs:=d26) (α:=Unit) [(s1,v1),(s2,v2),(s3,v3),(s4,v9),(s5,a2)] (fun a=>[]) (fun σ=>()) (fun a q=>Jh w0 E R a2 (fun b0 q=>Ze ((b0),q))  q) (fun σ=>trivial) (fun a4 d27 σ h H=> ?_) ?_
     · refine iv ?_
       refine iv ?_
       refine fu ?_
       refine cj (vs:=[a2]) (by kernel_rfl) H fun v28 h H=> ?_
       refine fw ?_
       refine iw ?_
       refine fu ?_
       refine cj (vs:=[]) (by kernel_rfl) H fun fO h H=> ?_
       refine cj (vs:=[fO,v28]) (by kernel_rfl) H fun v30 h H=> ?_
       refine fw ?_
       refine iw ?_
       refine fu ?_
       refine cj (vs:=[fO]) (by kernel_rfl) H fun v31 h H=> ?_
       refine cj (vs:=[v31,(vi 1)]) (by kernel_rfl) H fun l8 h H=> ?_
       refine cj (vs:=[fO,l8]) (by kernel_rfl) H fun mH h H=> ?_
       refine fw ?_
       exact Exists.intro (d27) (Eq.mp (by kernel_rfl) (And.intro (Eq.refl (jB (d27))) (And.intro (And.intro (Eq.refl (v1:Value)) (And.intro (Eq.refl (v2:Value)) (And.intro (Eq.refl (v3:Value)) (And.intro (Eq.refl (v9:Value)) trivial)))) H)))
     · refine si ?_
       refine iv ?_
       refine fu ?_
       refine cj (vs:=[a2]) (by kernel_rfl) H fun jh h H=> ?_
       refine cj (vs:=[jh,(vi 0)]) (by kernel_rfl) H fun j8 h H=> ?_
       refine cj (vs:=[j8]) (by kernel_rfl) H fun n3 h H=> ?_
       refine cj (vs:=[]) (by kernel_rfl) H fun v37 h H=> ?_
       refine cj (vs:=[v37,n3]) (by kernel_rfl) H fun kQ h H=> ?_
       refine fw ?_
       refine iw ?_
       refine iv ?_
       refine fu ?_
       refine cj (vs:=[v1]) (by kernel_rfl) H fun cH h H=> ?_
       refine cj (vs:=[v37]) (by kernel_rfl) H fun v40 h H=> ?_
       refine D9 (vs:=[cH,v40]) (by kernel_rfl) H (fun _ _ H=>Bo (P:=PP) (w0:=w0) Bp.results Q (d26) (by kernel_rfl) H) fun gn h H=> ?_
       refine fw ?_
       refine iw ?_
       refine si ?_
       refine Zf bT (rs:=d26) _ _ _ _ _ (fv:=gn) (by kernel_rfl) H (fun oZ _ _ H=>Bo (P:=PP) (w0:=w0) Bp.results Q (oZ::d26) (by kernel_rfl) H) (fun oZ h H=> ?_) (fun oZ h H=> ?_) (fun oZ=>trivial) (fun nC L_1 nD Zb R h H=> ?_)
       · refine vV ?_
         refine vV ?_
         exact Exists.intro (oZ::d26) (Eq.mp (by kernel_rfl) (And.intro (Eq.refl (jB (oZ::d26))) (And.intro (And.intro (Eq.refl (v1:Value)) (And.intro (Eq.refl (v2:Value)) (And.intro (Eq.refl (v3:Value)) (And.intro (Eq.refl (v9:Value)) (And.intro (Eq.refl (a2:Value)) trivial))))) H)))
       · exact O8 (P:=PP) (w0:=w0) Bp.results Q (oZ::d26) (by kernel_rfl) (Eq.mp (by kernel_rfl) H)
       · obtain⟨cL,mK,rfl,H⟩:=Zg H
         let E:Value→W:=se
         have H2:=Zh H
         refine⟨H2.1,rfl, ?_⟩
         have H:=H2.2
         refine iv ?_
         refine fu ?_
         refine jS (v:=cL) (by kernel_rfl) ?_
         refine fw ?_
         refine iw ?_
         refine fu ?_
         refine jS (v:=mK) (by kernel_rfl) ?_
         refine fw ?_
         refine Zi H (fun h H=> ?_)
         refine si ?_
         refine iv ?_
         refine ail ?_
         refine sj (vs:=[v9]) (by kernel_rfl) H fun v51 h H=> ?_
         refine sj (vs:=[v37]) (by kernel_rfl) H fun kz h H=> ?_
         refine sj (vs:=[v51,kz]) (by kernel_rfl) H fun v53 h H=> ?_
         refine sj (vs:=[v53]) (by kernel_rfl) H fun lN h H=> ?_
         refine sj (vs:=[v1]) (by kernel_rfl) H fun j9 h H=> ?_
         refine sj (vs:=[j9]) (by kernel_rfl) H fun mL h H=> ?_
         refine sj (vs:=[v37]) (by kernel_rfl) H fun l9 h H=> ?_
         refine sj (vs:=[mL,l9]) (by kernel_rfl) H fun kA h H=> ?_
         refine sj (vs:=[kA]) (by kernel_rfl) H fun v59 h H=> ?_
         refine Zj (v:=mK) (by kernel_rfl) ?_
         refine aim (vs:=[v59,mK]) (by kernel_rfl) H (fun _ _ H=>False.elim H) fun er h H=> ?_
         refine Jm (v:=lN) (vs:=[v53]) rfl (by kernel_rfl) (by kernel_rfl) H fun H=> ?_
         refine Jm (v:=v53) (vs:=[v51,kz]) rfl (by kernel_rfl) (by kernel_rfl) H fun H=> ?_
         refine Jm (v:=kz) (vs:=[v37]) rfl (by kernel_rfl) (by kernel_rfl) H fun H=> ?_
         refine Jm (v:=v51) (vs:=[v9]) rfl (by kernel_rfl) (by kernel_rfl) H fun H=> ?_
         refine sj (vs:=[lN,er]) (by kernel_rfl) H fun n7 h H=> ?_
         refine Zj (v:=n7) (by kernel_rfl) ?_
         refine ain ?_
         refine iw ?_
         refine O9 (α:=Value) [(s2,v2),(s3,v3),(s4,v9),(s5,a2),(s7,cL)] (fun a=>[(s9,a)]) (fun σ=>(σ s9)) (fun a=>D6 w0 E R v9 cL v2 v3 nC nD a2 a) (fun σ=>(And.intro rfl trivial)) (fun a5 σ h H=> ?_) ?_
         · refine O9 (α:=Unit) [(s4,v9),(s5,a2),(s7,cL),(s9,a5)] (fun a=>[]) (fun σ=>()) (fun a=>Ji w0 E R v9 cL a5 a2 nC nD) (fun σ=>trivial) (fun a6 σ h H=> ?_) ?_
           · refine iv ?_
             refine fu ?_
             refine cj (vs:=[v9]) (by kernel_rfl) H fun gr h H=> ?_
             refine jS (v:=cL) (by kernel_rfl) ?_
             refine cj (vs:=[gr,cL]) (by kernel_rfl) H fun tW h H=> ?_
             refine cj (vs:=[tW]) (by kernel_rfl) H fun vS h H=> ?_
             refine cj (vs:=[vS,(vi 0)]) (by kernel_rfl) H fun sd h H=> ?_
             refine fw ?_
             refine iw ?_
             refine vW (v:=sd) (by kernel_rfl) H (fun H=> ?_) (fun H=> ?_)
             · refine iv ?_
               refine fu ?_
               refine cj (vs:=[v9]) (by kernel_rfl) H fun ft h H=> ?_
               refine jS (v:=cL) (by kernel_rfl) ?_
               refine jS (v:=a5) (by kernel_rfl) ?_
               refine cj (vs:=[ft,cL]) (by kernel_rfl) H fun lO h H=> ?_
               refine cj (vs:=[lO,a5]) (by kernel_rfl) H fun yC h H=> ?_
               refine fw ?_
               refine iw ?_
               refine fu ?_
               refine cj (vs:=[a2]) (by kernel_rfl) H fun v70 h H=> ?_
               refine jS (v:=cL) (by kernel_rfl) ?_
               refine cj (vs:=[cL]) (by kernel_rfl) H fun n6 h H=> ?_
               refine cj (vs:=[v70,n6]) (by kernel_rfl) H fun v72 h H=> ?_
               refine cj (vs:=[a2,v72]) (by kernel_rfl) H fun tX h H=> ?_
               refine fw ?_
               refine vV ?_
               exact Eq.mp (by kernel_rfl) (And.intro (Eq.refl ([]:List gV)) H)
             · refine yH ?_
               refine vV ?_
               exact Eq.mp (by kernel_rfl) (And.intro (Eq.refl ([]:List gV)) H)
           · refine iv ?_
             refine fu ?_
             refine jS (v:=a5) (by kernel_rfl) ?_
             refine D9 (vs:=[a5,(vi 0),(vi 40)]) (by kernel_rfl) H (fun _ _ H=>False.elim H) fun qL h H=> ?_
             refine cj (vs:=[qL]) (by kernel_rfl) H fun v75 h H=> ?_
             refine jS (v:=v75) (by kernel_rfl) ?_
             refine nE (vs:=[v9]) (gv:=v75) (by kernel_rfl) (by kernel_rfl) H fun v76 h H=> ?_
             refine Ea (v:=cL) (gv:=v75) (by kernel_rfl) (by kernel_rfl) H fun sf h H=> ?_
             refine nE (vs:=[v76,sf]) (gv:=v75) (by kernel_rfl) (by kernel_rfl) H fun vT h H=> ?_
             refine nE (vs:=[vT]) (gv:=v75) (by kernel_rfl) (by kernel_rfl) H fun tY h H=> ?_
             refine nE (vs:=[tY,(vi 0)]) (gv:=v75) (by kernel_rfl) (by kernel_rfl) H fun v80 h H=> ?_
             refine Ea (v:=v80) (gv:=v75) (by kernel_rfl) (by kernel_rfl) H fun gw h H=> ?_
             refine nE (vs:=[v9]) (gv:=gw) (by kernel_rfl) (by kernel_rfl) H fun sh h H=> ?_
             refine Ea (v:=cL) (gv:=gw) (by kernel_rfl) (by kernel_rfl) H fun tZ h H=> ?_
             refine nE (vs:=[sh,tZ]) (gv:=gw) (by kernel_rfl) (by kernel_rfl) H fun ua h H=> ?_
             refine nE (vs:=[ua]) (gv:=gw) (by kernel_rfl) (by kernel_rfl) H fun v85 h H=> ?_
             refine Ea (v:=a5) (gv:=gw) (by kernel_rfl) (by kernel_rfl) H fun mJ h H=> ?_
             refine nE (vs:=[v85,mJ]) (gv:=gw) (by kernel_rfl) (by kernel_rfl) H fun v87 h H=> ?_
             refine nE (vs:=[gw,v87,(.bool false)]) (gv:=v75) (by kernel_rfl) (by kernel_rfl) H fun vU h H=> ?_
             refine cj (vs:=[v75,(.bool true),vU]) (by kernel_rfl) H fun lP h H=> ?_
             refine fw ?_
             refine iw ?_
             refine vW (v:=lP) (by kernel_rfl) H (fun H=> ?_) (fun H=> ?_)
             · refine iv ?_
               refine fu ?_
               refine cj (vs:=[v2,cg]) (by kernel_rfl) H fun yD h H=> ?_
               refine cj (vs:=[v3,(.bool false)]) (by kernel_rfl) H fun v91 h H=> ?_
               refine fw ?_
               refine iw ?_
               exact Eq.mp (by kernel_rfl) (And.intro (Eq.refl ([]:List gV)) H)
             · refine yH ?_
               exact Eq.mp (by kernel_rfl) (And.intro (Eq.refl (⟨[],.off⟩:DS)) (And.intro (And.intro (Eq.refl (v9:Value)) (And.intro (Eq.refl (a2:Value)) (And.intro (Eq.refl (cL:Value)) (And.intro (Eq.refl (a5:Value)) trivial)))) H))
         · refine iv ?_
           refine fu ?_
           refine jS (v:=mK) (by kernel_rfl) ?_
           refine cj (vs:=[mK,(vi 2)]) (by kernel_rfl) H fun ub h H=> ?_
           refine fw ?_
           refine iw ?_
           refine vW (v:=ub) (by kernel_rfl) H (fun H=> ?_) (fun H=> ?_)
           · refine fu ?_
             refine jS (v:=(vi 0)) (by kernel_rfl) ?_
             refine fw ?_
             exact Eq.mp (by kernel_rfl) (And.intro (Eq.refl (⟨[],.off⟩:DS)) (And.intro (And.intro (Eq.refl (v2:Value)) (And.intro (Eq.refl (v3:Value)) (And.intro (Eq.refl (v9:Value)) (And.intro (Eq.refl (a2:Value)) (And.intro (Eq.refl (cL:Value)) trivial))))) H))
           · refine yH ?_
             exact Eq.mp (by kernel_rfl) (And.intro (Eq.refl (⟨[],.off⟩:DS)) (And.intro (And.intro (Eq.refl (v2:Value)) (And.intro (Eq.refl (v3:Value)) (And.intro (Eq.refl (v9:Value)) (And.intro (Eq.refl (a2:Value)) (And.intro (Eq.refl (cL:Value)) trivial))))) H))
   · refine iv ?_
     refine fu ?_
     refine cj (vs:=[a2]) (by kernel_rfl) H fun v93 h H=> ?_
     refine cj (vs:=[v93]) (by kernel_rfl) H fun uc h H=> ?_
     refine cj (vs:=[uc,(vi 0)]) (by kernel_rfl) H fun ud h H=> ?_
     refine fw ?_
     refine iw ?_
     refine vW (v:=ud) (by kernel_rfl) H (fun H=> ?_) (fun H=> ?_)
     · refine yH ?_
       exact Exists.intro (d25) (Eq.mp (by kernel_rfl) (And.intro (Eq.refl (jB (d25))) (And.intro (And.intro (Eq.refl (v1:Value)) (And.intro (Eq.refl (v2:Value)) (And.intro (Eq.refl (v3:Value)) (And.intro (Eq.refl (v9:Value)) (And.intro (Eq.refl (a2:Value)) trivial))))) H)))
     · exact Exists.intro (d25) (Eq.mp (by kernel_rfl) (And.intro (Eq.refl (jB (d25))) (And.intro (And.intro (Eq.refl (v2:Value)) (And.intro (Eq.refl (v3:Value)) (And.intro (Eq.refl (v9:Value)) trivial))) H)))
def Zk (w0:World) (E R:Value→W) (x0 x1:Value):W :=
 pr (.aH) [x1] fun v1 =>
 pr (.aE .sub) [v1,(vi 1)] fun v2 =>
 cl PP w0 vQ [x0,(vi 0),v2] E fun v3 =>
 pr (.ic) [v3] fun v4 =>
 R v4
theorem aio {w0:World}{h:AH}{Q:CR→AH→Prop}(x0 x1:Value) (H:Zk w0 (fun v h=>Q (.aT v) h) (fun v h=>Q (.ret v) h) x0 x1 h):WF PP w0 Jn [x0,x1] h Q :=
 eC bT aip [] (by kernel_rfl) (Eq.mp (by kernel_rfl) H)
def Pa (w0:World) (E R:Value→W) (v1 x1 cx:Value):W :=
 gd cx false (fun k=>pr (.fieldAddr 2) [v1] k) fun cS =>
 gd cx false (fun k=>pr (.aH) [cS] k) fun dQ =>
 gd cx false (fun k=>pr (.aH) [x1] k) fun c9 =>
 gd cx false (fun k=>pr (.aE .sub) [c9,(vi 1)] k) fun cX =>
 gd cx false (fun k=>cl PP w0 vQ [dQ,(vi 0),cX] E k) fun v20 =>
 gd cx false (fun k=>pr (.ic) [v20] k) fun v21 =>
 pr (.pick) [cx,(.bool true),v21] fun dX =>
 R dX
def Pb (w0:World) (E R:Value→W) (v1 x1 v10:Value):W :=
 gd v10 false (fun k=>pr (.fieldAddr 1) [v1] k) fun v11 =>
 gd v10 false (fun k=>pr (.aH) [v11] k) fun v12 =>
 gd v10 false (fun k=>pr (.aH) [x1] k) fun cm =>
 gd v10 false (fun k=>pr (.aE .gtr) [v12,cm] k) fun cN =>
 pr (.pick) [v10,(.bool true),cN] fun cx =>
 Pa w0 E R v1 x1 cx
def Zl (w0:World) (E R:Value→W) (x0 x1:Value):W :=
 pr (.box 79) [x0] fun v1 =>
 pr (.fieldAddr 0) [v1] fun v2 =>
 pr (.aH) [v2] fun v3 =>
 pr (.aE .lss) [v3,(vi 0)] fun v4 =>
 gd v4 false (fun k=>pr (.fieldAddr 0) [v1] k) fun v5 =>
 gd v4 false (fun k=>pr (.aH) [v5] k) fun v6 =>
 gd v4 false (fun k=>pr (.fieldAddr 1) [v1] k) fun v7 =>
 gd v4 false (fun k=>pr (.aH) [v7] k) fun v8 =>
 gd v4 false (fun k=>pr (.aE .geq) [v6,v8] k) fun v9 =>
 pr (.pick) [v4,(.bool true),v9] fun v10 =>
 Pb w0 E R v1 x1 v10
theorem aiq {w0:World}{h:AH}{Q:CR→AH→Prop}(x0 x1:Value) (H:Zl w0 (fun v h=>Q (.aT v) h) (fun v h=>Q (.ret v) h) x0 x1 h):WF PP w0 Jo [x0,x1] h Q :=
 eC bT air [] (by kernel_rfl) (Eq.mp (by kernel_rfl) H)
def Zm (w0:World) (E R:Value→W) (x0 x1:Value):W :=
 cl PP w0 Jc [x0,x1] E fun v1 =>
 pr (.aE .geq) [v1,(vi 0)] fun v2 =>
 R v2
theorem ais {w0:World}{h:AH}{Q:CR→AH→Prop}(x0 x1:Value) (H:Zm w0 (fun v h=>Q (.aT v) h) (fun v h=>Q (.ret v) h) x0 x1 h):WF PP w0 Pc [x0,x1] h Q :=
 eC bT ait [] (by kernel_rfl) (Eq.mp (by kernel_rfl) H)
def Pd (w0:World) (E R:Value→W) (v1 v5:Value):W :=
 pr (.fieldAddr 6) [v1] fun v7 =>
 pr (.aH) [v7] fun v8 =>
 pr (.yA (.func Jo) 0) [v5] fun v9 =>
 cl PP w0 Pc [v8,v9] E fun v10 =>
 pr (.ic) [v10] fun v11 =>
 R v11
def Pe (w0:World) (E R:Value→W) (aL:Value) (fj:Value→W):W :=
 pr (.aE .add) [aL,(vi 1)] fun c9 =>
 fj c9
def Pf (w0:World) (E R:Value→W) (aL:Value) (fj:Value→W) (j8:Value):W :=
 br j8 (
 R (.bool false)) (
 Pe w0 E R aL fj)
def Pg (w0:World) (E R:Value→W) (cm aL v5:Value) (fj:Value→W):W :=
 pr (.bG 4) [cm,aL] fun cX =>
 pr (.bV 4) [cX] fun v20 =>
 pr (.alloc 67 [(vi 0),(vi 0),(vi 0),(vi 0)]) [] fun v21 =>
 pr (.store 4) [v21,v20] fun dX =>
 pr (.fieldAddr 0) [v21] fun dR =>
 pr (.aH) [dR] fun v24 =>
 cl PP w0 vR [v24] E fun gI =>
 pr (.extract 0) [gI] fun fi =>
 pr (.extract 1) [gI] fun eN =>
 pr (.alloc 138 [(bs []),(vi 0),(vi 0),(vi 0),(vi 0),(vi 0),(vi 0),(.bool false),(.bool false)]) [] fun v28 =>
 pr (.store 9) [v28,fi] fun fO =>
 pr (.ic) [eN] fun v30 =>
 gd v30 false (fun k=>pr (.bV 4) [v21] k) fun v31 =>
 gd v30 false (fun k=>cl PP w0 I9 [v31] E k) fun l8 =>
 gd v30 false (fun k=>pr (.yA (.func Jn) 0) [v5] k) fun mH =>
 gd v30 false (fun k=>cl PP w0 OM [l8,mH] E k) fun jh =>
 pr (.pick) [v30,(.bool true),jh] fun j8 =>
 Pf w0 E R aL fj j8
def Jp (w0:World) (E R:Value→W) (cN cm v5 v1:Value) (fj:Value→W) (aL:Value):W :=
 pr (.aE .lss) [aL,cN] fun dQ =>
 br dQ (
 Pg w0 E R cm aL v5 fj) (
 Pd w0 E R v1 v5)
def Ph (w0:World) (E R:Value→W) (v1 v5:Value):W :=
 pr (.fieldAddr 5) [v1] fun v12 =>
 pr (.aH) [v12] fun cm =>
 pr (.dG) [cm] fun cN =>
 LP (α:=Value) (fun k a=>Jp w0 E R cN cm v5 v1 k a) ((vi 0))
def Pj (w0:World) (E R:Value→W) (v1 v5 v53:Value):W :=
 br v53 (
 R (.bool false)) (
 Ph w0 E R v1 v5)
def Pk (w0:World) (E R:Value→W) (v1 v5 gq:Value):W :=
 gd gq false (fun k=>pr (.fieldAddr 4) [v1] k) fun v49 =>
 gd gq false (fun k=>pr (.aH) [v49] k) fun n4 =>
 gd gq false (fun k=>cl PP w0 vQ [n4,(vi 0),(vi 200)] E k) fun v51 =>
 gd gq false (fun k=>pr (.ic) [v51] k) fun kz =>
 pr (.pick) [gq,(.bool true),kz] fun v53 =>
 Pj w0 E R v1 v5 v53
def Pl (w0:World) (E R:Value→W) (v1 v5 jq:Value):W :=
 gd jq false (fun k=>pr (.fieldAddr 3) [v1] k) fun nA =>
 gd jq false (fun k=>pr (.aH) [nA] k) fun l7 =>
 gd jq false (fun k=>cl PP w0 vQ [l7,(vi 0),(vi 200)] E k) fun v46 =>
 gd jq false (fun k=>pr (.ic) [v46] k) fun gp =>
 pr (.pick) [jq,(.bool true),gp] fun gq =>
 Pk w0 E R v1 v5 gq
def Zn (w0:World) (E R:Value→W) (x0:Value):W :=
 pr (.box 25) [x0] fun v1 =>
 pr (.fieldAddr 5) [v1] fun v2 =>
 pr (.aH) [v2] fun v3 =>
 pr (.dG) [v3] fun v4 =>
 pr (.alloc 3 [(vi 0)]) [] fun v5 =>
 pr (.store 1) [v5,v4] fun v6 =>
 pr (.aH) [v5] fun n3 =>
 cl PP w0 vQ [n3,(vi 1),(vi 600)] E fun v37 =>
 pr (.ic) [v37] fun kQ =>
 gd kQ false (fun k=>pr (.fieldAddr 6) [v1] k) fun cH =>
 gd kQ false (fun k=>pr (.aH) [cH] k) fun v40 =>
 gd kQ false (fun k=>pr (.dG) [v40] k) fun gn =>
 gd kQ false (fun k=>pr (.aE .gtr) [gn,(vi 40)] k) fun jy =>
 pr (.pick) [kQ,(.bool true),jy] fun jq =>
 Pl w0 E R v1 v5 jq
theorem aiu {w0:World}{h:AH}{Q:CR→AH→Prop}(x0:Value) (H:Zn w0 (fun v h=>Q (.aT v) h) (fun v h=>Q (.ret v) h) x0 h):WF PP w0 Jq [x0] h Q :=
 eC bT e53 [[yI]] (by kernel_rfl) (Eq.mp (by kernel_rfl) H)
def Pm (w0:World) (E R:Value→W) (v4:Value):W :=
 R (.tuple ⟨[v4,(vi 0)]⟩)
def Pn (w0:World) (E R:Value→W) (v1:Value):W :=
 pr (.bV 7) [v1] fun v2 =>
 cl PP w0 O6 [v2] E fun v3 =>
 pr (.extract 0) [v3] fun v4 =>
 pr (.extract 1) [v3] fun v5 =>
 pr (.ic) [v5] fun v6 =>
 br v6 (
 R (.tuple ⟨[cg,(vi 12)]⟩)) (
 Pm w0 E R v4)
def Zo (w0:World) (E R:Value→W) (x0:Value):W :=
 pr (.box 25) [x0] fun v1 =>
 pr (.bV 7) [v1] fun v7 =>
 cl PP w0 Jq [v7] E fun v8 =>
 pr (.ic) [v8] fun v9 =>
 br v9 (
 R (.tuple ⟨[cg,(vi 1)]⟩)) (
 Pn w0 E R v1)
theorem aiv {w0:World}{h:AH}{Q:CR→AH→Prop}(x0:Value) (H:Zo w0 (fun v h=>Q (.aT v) h) (fun v h=>Q (.ret v) h) x0 h):WF PP w0 Po [x0] h Q :=
 eC bT e14 [] (by kernel_rfl) (Eq.mp (by kernel_rfl) H)
def Pp (w0:World) (E R:Value→W)  :W :=
 R (.bool true)
def Pq (w0:World) (E R:Value→W) (y2:Value) (k1:Value→W):W :=
 pr (.aE .add) [y2,(vi 1)] fun v3 =>
 k1 v3
def Ps (w0:World) (E R:Value→W) (x0 y2 x1:Value) (k1:Value→W):W :=
 pr (.bG 1) [x0,y2] fun v4 =>
 pr (.aH) [v4] fun v5 =>
 pr (.bG 1) [x1,y2] fun v6 =>
 pr (.aH) [v6] fun v7 =>
 pr (.aE .neq) [v5,v7] fun v8 =>
 br v8 (
 R (.bool false)) (
 Pq w0 E R y2 k1)
def Jr (w0:World) (E R:Value→W) (x0 x1:Value) (k1:Value→W) (y2:Value):W :=
 pr (.dG) [x0] fun v9 =>
 pr (.aE .lss) [y2,v9] fun v10 =>
 br v10 (
 Ps w0 E R x0 y2 x1 k1) (
 Pp w0 E R)
def Pt (w0:World) (E R:Value→W) (x0 x1:Value):W :=
 LP (α:=Value) (fun k a=>Jr w0 E R x0 x1 k a) ((vi 0))
def Zp (w0:World) (E R:Value→W) (x0 x1:Value):W :=
 pr (.dG) [x0] fun v11 =>
 pr (.dG) [x1] fun v12 =>
 pr (.aE .neq) [v11,v12] fun cm =>
 br cm (
 R (.bool false)) (
 Pt w0 E R x0 x1)
theorem aiw {w0:World}{h:AH}{Q:CR→AH→Prop}(x0 x1:Value) (H:Zp w0 (fun v h=>Q (.aT v) h) (fun v h=>Q (.ret v) h) x0 x1 h):WF PP w0 Js [x0,x1] h Q :=
 eC bT e16 [[s5]] (by kernel_rfl) (Eq.mp (by kernel_rfl) H)
def Pu (w0:World) (E R:Value→W) (y9:Value):W :=
 R y9
def Jt (w0:World) (E R:Value→W) (bB:Value) (dh:Value→Value→W) (aL:Value):W :=
 pr (.aE .add) [bB,(vi 1)] fun dQ =>
 dh aL dQ
def Pv (w0:World) (E R:Value→W) (v1 c9 bK bB:Value) (dh:Value→Value→W) (v28:Value):W :=
 br v28 (
 pr (.bV 4) [v1] fun fO =>
 cl PP w0 Bn [fO] E fun v30 =>
 pr (.aE .sub) [c9,(vi 1)] fun v31 =>
 pr (.tU 3) [v30,v31] fun l8 =>
 pr (.buildSlice 3 1 [(vi 0)] [(0,1)]) [l8] fun mH =>
 pr (.append 3 1 [(vi 0)]) [bK,mH] fun jh =>
 Jt w0 E R bB dh jh) (
 Jt w0 E R bB dh bK)
def Pw (w0:World) (E R:Value→W) (v1 c9 bK bB:Value) (dh:Value→Value→W) (v21:Value):W :=
 gd v21 true (fun k=>pr (.bV 4) [v1] k) fun dX =>
 gd v21 true (fun k=>cl PP w0 Bn [dX] E k) fun dR =>
 gd v21 true (fun k=>k c9) fun v24 =>
 gd v21 true (fun k=>pr (.aE .sub) [v24,(vi 1)] k) fun gI =>
 gd v21 true (fun k=>pr (.tU 3) [dR,gI] k) fun fi =>
 gd v21 true (fun k=>pr (.aE .neq) [fi,(vi (-1))] k) fun eN =>
 pr (.pick) [v21,eN,(.bool false)] fun v28 =>
 Pv w0 E R v1 c9 bK bB dh v28
def Px (w0:World) (E R:Value→W) (v11 bB v6 v1 bK:Value) (dh:Value→Value→W):W :=
 pr (.tU 2) [v11,bB] fun c9 =>
 gd v6 true (fun k=>k c9) fun cX =>
 gd v6 true (fun k=>pr (.aE .gtr) [cX,(vi 0)] k) fun v20 =>
 pr (.pick) [v6,v20,(.bool false)] fun v21 =>
 Pw w0 E R v1 c9 bK bB dh v21
def Ju (w0:World) (E R:Value→W) (v11 v6 v1:Value) (dh:Value→Value→W) (bK bB:Value):W :=
 pr (.aE .lss) [bB,(vi 2)] fun cx =>
 br cx (
 Px w0 E R v11 bB v6 v1 bK dh) (
 Pu w0 E R  bK)
def Zq (w0:World) (E R:Value→W) (x0:Value):W :=
 pr (.box 67) [x0] fun v1 =>
 pr (.fieldAddr 0) [v1] fun v2 =>
 pr (.aH) [v2] fun v3 =>
 cl PP w0 vR [v3] E fun v4 =>
 pr (.extract 0) [v4] fun v5 =>
 pr (.extract 1) [v4] fun v6 =>
 pr (.alloc 138 [(bs []),(vi 0),(vi 0),(vi 0),(vi 0),(vi 0),(vi 0),(.bool false),(.bool false)]) [] fun v7 =>
 pr (.store 9) [v7,v5] fun v8 =>
 pr (.fieldAddr 5) [v7] fun v10 =>
 pr (.bV 2) [v10] fun v11 =>
 LP (α:=Value×Value) (fun k a=>Ju w0 E R v11 v6 v1 (fun b0 b1=>k (b0,b1)) a.1 a.2) (cg,(vi 0))
theorem aix {w0:World}{h:AH}{Q:CR→AH→Prop}(x0:Value) (H:Zq w0 (fun v h=>Q (.aT v) h) (fun v h=>Q (.ret v) h) x0 h):WF PP w0 Py [x0] h Q :=
 eC bT e30 [[s5,tV]] (by kernel_rfl) (Eq.mp (by kernel_rfl) H)
def aiy (w0:World) (E R:Value→W) (y1:Value):W :=
 cl PP w0 Zr [y1] E fun v2 =>
 R y1
def aiz (w0:World) (E R:Value→W) (v3 y5:Value) (k4:Value→W):W :=
 pr (.x .entry) [v3] fun v8 =>
 pr (.extract 0) [v8] fun v9 =>
 pr (.buildSlice 3 1 [(vi 0)] [(0,1)]) [v9] fun v10 =>
 pr (.append 3 1 [(vi 0)]) [y5,v10] fun v11 =>
 k4 v11
def aiA (w0:World) (E R:Value→W) (v3:Value) (k4:Value→W) (y5:Value):W :=
 pr (.x .yJ) [v3] fun v6 =>
 pr (.extract 0) [v6] fun v7 =>
 br v7 (
 aiz w0 E R v3 y5 k4) (
 aiy w0 E R  y5)
def Zs (w0:World) (E R:Value→W) (x0:Value):W :=
 pr (.x .Eb) [x0] fun v3 =>
 LP (α:=Value) (fun k a=>aiA w0 E R v3 k a) (cg)
theorem aiB {w0:World}{h:AH}{Q:CR→AH→Prop}(x0:Value) (H:Zs w0 (fun v h=>Q (.aT v) h) (fun v h=>Q (.ret v) h) x0 h):WF PP w0 Jv [x0] h Q :=
 eC bT e62 [[s3]] (by kernel_rfl) (Eq.mp (by kernel_rfl) H)
def Pz (w0:World) (E R:Value→W) (v1 v7:Value):W :=
 pr (.bV 4) [v1] fun v9 =>
 pr (.fieldAddr 4) [v7] fun v10 =>
 pr (.aH) [v10] fun v11 =>
 pr (.aE .sub) [v11,(vi 1)] fun v12 =>
 cl PP w0 Bn [v9] E fun cm =>
 ck (.aE .sub) [v11,(vi 1)] v12 (
 ck (.aH) [v10] v11 (
 ck (.fieldAddr 4) [v7] v10 (
 pr (.tU 3) [cm,v12] fun cN =>
 R cN)))
def Zt (w0:World) (E R:Value→W) (x0:Value):W :=
 pr (.box 67) [x0] fun v1 =>
 pr (.fieldAddr 0) [v1] fun v2 =>
 pr (.aH) [v2] fun v3 =>
 cl PP w0 vR [v3] E fun v4 =>
 pr (.extract 0) [v4] fun v5 =>
 pr (.extract 1) [v4] fun v6 =>
 pr (.alloc 138 [(bs []),(vi 0),(vi 0),(vi 0),(vi 0),(vi 0),(vi 0),(.bool false),(.bool false)]) [] fun v7 =>
 pr (.store 9) [v7,v5] fun v8 =>
 pr (.fieldAddr 4) [v7] fun cx =>
 pr (.aH) [cx] fun cS =>
 pr (.aE .eql) [cS,(vi 0)] fun dQ =>
 br dQ (
 R (vi (-1))) (
 Pz w0 E R v1 v7)
theorem aiC {w0:World}{h:AH}{Q:CR→AH→Prop}(x0:Value) (H:Zt w0 (fun v h=>Q (.aT v) h) (fun v h=>Q (.ret v) h) x0 h):WF PP w0 PA [x0] h Q :=
 eC bT e38 [] (by kernel_rfl) (Eq.mp (by kernel_rfl) H)
def PB (w0:World) (E R:Value→W) (v5:Value) (d8:List Nat):W :=
 pr (.aH) [v5] fun v9 =>
 nB (d8) (
 R v9)
def PC (w0:World) (E R:Value→W) (yK:Value) (Ec:Value→List Nat→W) (d22:List Nat):W :=
 pr (.aE .add) [yK,(vi 1)] fun dR =>
 Ec dR (d22)
def PD (w0:World) (E R:Value→W) (cx yK v5:Value) (Ec:Value→List Nat→W) (d21:List Nat):W :=
 pr (.bG 1) [cx,yK] fun v24 =>
 pr (.aH) [v24] fun gI =>
 pr (.aH) [v5] fun fi =>
 pr (.sk 0) [fi,gI,(.bool true)] fun eN =>
 PC w0 E R yK Ec (d21)
def yL (w0:World) (E R:Value→W) (cS cx v5:Value) (Ec:Value→List Nat→W) (yK:Value) (d19:List Nat):W :=
 pr (.aE .lss) [yK,cS] fun v20 =>
 br v20 (
 PD w0 E R cx yK v5 Ec (d19)) (
 PB w0 E R v5 (d19))
def PE (w0:World) (E R:Value→W) (v1 v2 v5:Value) (d7:List Nat):W :=
 pr (.fieldAddr 5) [v1] fun v10 =>
 pr (.aH) [v10] fun v11 =>
 pr (.aH) [v2] fun v12 =>
 pr (.bG 4) [v11,v12] fun cm =>
 pr (.bV 4) [cm] fun cN =>
 cl PP w0 Py [cN] (cE (d7) E) fun cx =>
 pr (.dG) [cx] fun cS =>
 LP (α:=(Value)×List Nat) (fun k a=>yL w0 E R cS cx v5 (fun b0 q=>k ((b0),q)) a.1 a.2) (((vi 0)),d7)
def Jw (w0:World) (E R:Value→W) (gn lu v1 v2 v5:Value) (Jx:W):W :=
 pr (.x .entry) [gn] fun l7 =>
 pr (.extract 0) [l7] fun v46 =>
 pr (.aE .eql) [lu,(vi 2)] fun gp =>
 gd gp false (fun k=>k v46) fun gq =>
 gd gp false (fun k=>pr (.fieldAddr 5) [v1] k) fun v49 =>
 gd gp false (fun k=>pr (.aH) [v49] k) fun n4 =>
 gd gp false (fun k=>pr (.aH) [v2] k) fun v51 =>
 gd gp false (fun k=>pr (.bG 4) [n4,v51] k) fun kz =>
 gd gp false (fun k=>pr (.bV 4) [kz] k) fun v53 =>
 gd gp false (fun k=>cl PP w0 PA [v53] se k) fun lN =>
 gd gp false (fun k=>pr (.aE .neq) [gq,lN] k) fun j9 =>
 pr (.pick) [gp,(.bool true),j9] fun mL =>
 br mL (
 pr (.aH) [v5] fun l9 =>
 pr (.sk 0) [l9,v46,(.bool true)] fun kA =>
 Jx) (
 Jx)
def Zu (w0:World) (E R:Value→W) (gn lu v1 v2 v5:Value) (ue:LO) (uf:Nat) (Jx:W):W :=
 pr (.x .yJ) [gn] fun jq =>
 pr (.extract 0) [jq] fun nA =>
 br nA (
 Jw w0 E R gn lu v1 v2 v5 Jx) (
 mI ue uf .ready none true R)
def PF (w0:World) (E R:Value→W) (v3 v1 v2 v5:Value) (ue:LO) (uf:Nat) (yM lu:Value):W :=
 yE ue uf (
 qM ue uf (
 pr (.aH) [v3] fun kQ =>
 pr (.bG 1) [kQ,yM] fun cH =>
 pr (.aH) [cH] fun v40 =>
 pr (.x .Eb) [v40] fun gn =>
 LP (α:=Unit) (fun k a=>Zu w0 E R gn lu v1 v2 v5 ue uf (k ())) ()))
def Zv (w0:World) (E R:Value→W) (x0 x1 x2:Value):W :=
 pr (.box 25) [x0] fun v1 =>
 pr (.box 3) [x1] fun v2 =>
 pr (.box 101) [x2] fun v3 =>
 pr (.mkMap) [] fun v4 =>
 pr (.alloc 102 [(.map none)]) [] fun v5 =>
 pr (.store 1) [v5,v4] fun v6 =>
 pr (.bV 7) [v1] fun v28 =>
 pr (.aH) [v2] fun fO =>
 cl PP w0 Je [v28,fO] (cE (([]:List Nat)) E) fun v30 =>
 D7 PP w0 v30 (fun ue uf Zw R=>Jl (fun yM lu=>PF w0 se R v3 v1 v2 v5 ue uf yM lu) Zw) (fun sn=>cE (sn::([]:List Nat)) E) (fun sn z34=>yF z34 (
 PE w0 E R v1 v2 v5 (sn::([]:List Nat))) (
 (fun _=>False)) [])
theorem aiD {w0:World}{h:AH}{Q:CR→AH→Prop}(x0:Value) (x1:Value) (x2:Value) (H:Zv w0 (fun v h=>Q (.aT v) h) (fun v h=>Q (.ret v) h) x0 x1 x2 h):WF PP w0 PG [x0,x1,x2] h Q:=by
 let E:Value→W:=fun v h=>Q (.aT v) h
 let R:Value→W:=fun v h=>Q (.ret v) h
 refine O7 bT e60 ?_
 refine iv ?_
 refine fu ?_
 refine cj (vs:=[x0]) (by kernel_rfl) H fun v1 h H=> ?_
 refine cj (vs:=[x1]) (by kernel_rfl) H fun v2 h H=> ?_
 refine cj (vs:=[x2]) (by kernel_rfl) H fun v3 h H=> ?_
 refine jS (v:=(.map none)) (by kernel_rfl) ?_
 refine fw ?_
 refine iw ?_
 refine iv ?_
 refine fu ?_
 refine cj (vs:=[]) (by kernel_rfl) H fun v4 h H=> ?_
 refine cj (vs:=[]) (by kernel_rfl) H fun v5 h H=> ?_
 refine cj (vs:=[v5,v4]) (by kernel_rfl) H fun v6 h H=> ?_
 refine fw ?_
 refine iw ?_
 refine yG (rs:=([]:List Nat)) (α:=Unit) [(s3,v1),(s4,v2),(s7,v5)] (fun a=>[]) (fun σ=>()) (fun a q=>PE w0 E R v1 v2 v5  q) (fun σ=>trivial) (fun a1 d7 σ h H=> ?_) ?_
 · refine yG (rs:=d7) (α:=Unit) [(s7,v5)] (fun a=>[]) (fun σ=>()) (fun a q=>PB w0 E R v5  q) (fun σ=>trivial) (fun a2 d8 σ h H=> ?_) ?_
   · refine iv ?_
     refine fu ?_
     refine cj (vs:=[v5]) (by kernel_rfl) H fun v9 h H=> ?_
     refine jS (v:=v9) (by kernel_rfl) ?_
     refine fw ?_
     refine iw ?_
     exact O8 (P:=PP) (w0:=w0) Ed.results Q (d8) (by kernel_rfl) (Eq.mp (by kernel_rfl) H)
   · refine iv ?_
     refine fu ?_
     refine cj (vs:=[v1]) (by kernel_rfl) H fun v10 h H=> ?_
     refine cj (vs:=[v10]) (by kernel_rfl) H fun v11 h H=> ?_
     refine cj (vs:=[v2]) (by kernel_rfl) H fun v12 h H=> ?_
     refine cj (vs:=[v11,v12]) (by kernel_rfl) H fun cm h H=> ?_
     refine cj (vs:=[cm]) (by kernel_rfl) H fun cN h H=> ?_
     refine D9 (vs:=[cN]) (by kernel_rfl) H (fun _ _ H=>Bo (P:=PP) (w0:=w0) Ed.results Q (d7) (by kernel_rfl) H) fun cx h H=> ?_
     refine cj (vs:=[cx]) (by kernel_rfl) H fun cS h H=> ?_
     refine jS (v:=(vi 0)) (by kernel_rfl) ?_
     refine fw ?_
     refine iw ?_
     refine si ?_
     refine Zd bT (rs:=d7) (α:=Value) [(s7,v5),(vX,cx),(n8,cS)] (fun a=>[(qN,a)]) (fun σ=>(σ qN)) (fun k a=>yL w0 E R cS cx v5 (fun b0 q=>k ((b0),q)) a.1 a.2) (fun σ=>(And.intro rfl trivial)) (fun Zx a3 d19 σ h H=> ?_) (x:=((vi 0))) (by kernel_rfl) (Eq.mp (by kernel_rfl) (And.intro (Eq.refl (v5:Value)) (And.intro (Eq.refl (cx:Value)) (And.intro (Eq.refl (cS:Value)) trivial)))) H
     refine iv ?_
     refine fu ?_
     refine cj (vs:=[a3,cS]) (by kernel_rfl) H fun v20 h H=> ?_
     refine fw ?_
     refine iw ?_
     refine yG (rs:=d19) (α:=Unit) [(s7,v5),(vX,cx),(n8,cS),(qN,a3)] (fun a=>[]) (fun σ=>()) (fun a q=>PD w0 E R cx a3 v5 (fun b0 q=>Zx ((b0),q))  q) (fun σ=>trivial) (fun a4 d21 σ h H=> ?_) ?_
     · refine yG (rs:=d21) (α:=Unit) [(s7,v5),(vX,cx),(n8,cS),(qN,a3)] (fun a=>[]) (fun σ=>()) (fun a q=>PC w0 E R a3 (fun b0 q=>Zx ((b0),q))  q) (fun σ=>trivial) (fun a5 d22 σ h H=> ?_) ?_
       · refine fu ?_
         refine cj (vs:=[a3,(vi 1)]) (by kernel_rfl) H fun dR h H=> ?_
         refine jS (v:=dR) (by kernel_rfl) ?_
         refine fw ?_
         exact Exists.intro (d22) (Eq.mp (by kernel_rfl) (And.intro (Eq.refl (jB (d22))) (And.intro (And.intro (Eq.refl (v5:Value)) (And.intro (Eq.refl (cx:Value)) (And.intro (Eq.refl (cS:Value)) trivial))) H)))
       · refine si ?_
         refine iv ?_
         refine fu ?_
         refine cj (vs:=[cx,a3]) (by kernel_rfl) H fun v24 h H=> ?_
         refine cj (vs:=[v24]) (by kernel_rfl) H fun gI h H=> ?_
         refine jS (v:=gI) (by kernel_rfl) ?_
         refine fw ?_
         refine iw ?_
         refine fu ?_
         refine cj (vs:=[v5]) (by kernel_rfl) H fun fi h H=> ?_
         refine jS (v:=gI) (by kernel_rfl) ?_
         refine cj (vs:=[fi,gI,(.bool true)]) (by kernel_rfl) H fun eN h H=> ?_
         refine fw ?_
         refine vV ?_
         exact Exists.intro (d21) (Eq.mp (by kernel_rfl) (And.intro (Eq.refl (jB (d21))) (And.intro (And.intro (Eq.refl (v5:Value)) (And.intro (Eq.refl (cx:Value)) (And.intro (Eq.refl (cS:Value)) (And.intro (Eq.refl (a3:Value)) trivial)))) H)))
     · refine vW (v:=v20) (by kernel_rfl) H (fun H=> ?_) (fun H=> ?_)
       · refine yH ?_
         exact Exists.intro (d19) (Eq.mp (by kernel_rfl) (And.intro (Eq.refl (jB (d19))) (And.intro (And.intro (Eq.refl (v5:Value)) (And.intro (Eq.refl (cx:Value)) (And.intro (Eq.refl (cS:Value)) (And.intro (Eq.refl (a3:Value)) trivial)))) H)))
       · exact Exists.intro (d19) (Eq.mp (by kernel_rfl) (And.intro (Eq.refl (jB (d19))) (And.intro (And.intro (Eq.refl (v5:Value)) trivial) H)))
 · refine iv ?_
   refine fu ?_
   refine cj (vs:=[v1]) (by kernel_rfl) H fun v28 h H=> ?_
   refine cj (vs:=[v2]) (by kernel_rfl) H fun fO h H=> ?_
   refine D9 (vs:=[v28,fO]) (by kernel_rfl) H (fun _ _ H=>Bo (P:=PP) (w0:=w0) Ed.results Q (([]:List Nat)) (by kernel_rfl) H) fun v30 h H=> ?_
   refine fw ?_
   refine iw ?_
   refine si ?_
   refine Zf bT (rs:=([]:List Nat)) _ _ _ _ _ (fv:=v30) (by kernel_rfl) H (fun sn _ _ H=>Bo (P:=PP) (w0:=w0) Ed.results Q (sn::([]:List Nat)) (by kernel_rfl) H) (fun sn h H=> ?_) (fun sn h H=> ?_) (fun sn=>trivial) (fun ue L_1 uf Zw R h H=> ?_)
   · refine vV ?_
     exact Exists.intro (sn::([]:List Nat)) (Eq.mp (by kernel_rfl) (And.intro (Eq.refl (jB (sn::([]:List Nat)))) (And.intro (And.intro (Eq.refl (v1:Value)) (And.intro (Eq.refl (v2:Value)) (And.intro (Eq.refl (v5:Value)) trivial))) H)))
   · exact False.elim H
   · obtain⟨yM,lu,rfl,H⟩:=Zg H
     let E:Value→W:=se
     have H2:=Zh H
     refine⟨H2.1,rfl, ?_⟩
     have H:=H2.2
     refine iv ?_
     refine fu ?_
     refine jS (v:=yM) (by kernel_rfl) ?_
     refine fw ?_
     refine iw ?_
     refine fu ?_
     refine jS (v:=lu) (by kernel_rfl) ?_
     refine fw ?_
     refine Zi H (fun h H=> ?_)
     refine si ?_
     refine iv ?_
     refine fu ?_
     refine cj (vs:=[v3]) (by kernel_rfl) H fun kQ h H=> ?_
     refine jS (v:=yM) (by kernel_rfl) ?_
     refine cj (vs:=[kQ,yM]) (by kernel_rfl) H fun cH h H=> ?_
     refine cj (vs:=[cH]) (by kernel_rfl) H fun v40 h H=> ?_
     refine cj (vs:=[v40]) (by kernel_rfl) H fun gn h H=> ?_
     refine fw ?_
     refine iw ?_
     refine si ?_
     refine aiE bT (α:=Unit) [(s3,v1),(s4,v2),(s7,v5),(s9,lu),(ug,gn)] (fun a=>[]) (fun σ=>()) (fun k a=>Zu w0 E R gn lu v1 v2 v5 ue uf (k ())) (fun σ=>trivial) (fun k_6 a6 σ h H=> ?_) (x:=()) (by kernel_rfl) (Eq.mp (by kernel_rfl) (And.intro (Eq.refl (v1:Value)) (And.intro (Eq.refl (v2:Value)) (And.intro (Eq.refl (v5:Value)) (And.intro (Eq.refl (lu:Value)) (And.intro (Eq.refl (gn:Value)) trivial)))))) H
     refine iv ?_
     refine fu ?_
     refine cj (vs:=[gn]) (by kernel_rfl) H fun jq h H=> ?_
     refine cj (vs:=[jq]) (by kernel_rfl) H fun nA h H=> ?_
     refine fw ?_
     refine iw ?_
     refine O9 (α:=Unit) [(s3,v1),(s4,v2),(s7,v5),(s9,lu),(ug,gn)] (fun a=>[]) (fun σ=>()) (fun a=>Jw w0 E R gn lu v1 v2 v5 (k_6 ())) (fun σ=>trivial) (fun a7 σ h H=> ?_) ?_
     · refine si ?_
       refine iv ?_
       refine fu ?_
       refine cj (vs:=[gn]) (by kernel_rfl) H fun l7 h H=> ?_
       refine cj (vs:=[l7]) (by kernel_rfl) H fun v46 h H=> ?_
       refine jS (v:=v46) (by kernel_rfl) ?_
       refine fw ?_
       refine iw ?_
       refine iv ?_
       refine fu ?_
       refine jS (v:=lu) (by kernel_rfl) ?_
       refine cj (vs:=[lu,(vi 2)]) (by kernel_rfl) H fun gp h H=> ?_
       refine jS (v:=gp) (by kernel_rfl) ?_
       refine Ea (v:=v46) (gv:=gp) (by kernel_rfl) (by kernel_rfl) H fun gq h H=> ?_
       refine nE (vs:=[v1]) (gv:=gp) (by kernel_rfl) (by kernel_rfl) H fun v49 h H=> ?_
       refine nE (vs:=[v49]) (gv:=gp) (by kernel_rfl) (by kernel_rfl) H fun n4 h H=> ?_
       refine nE (vs:=[v2]) (gv:=gp) (by kernel_rfl) (by kernel_rfl) H fun v51 h H=> ?_
       refine nE (vs:=[n4,v51]) (gv:=gp) (by kernel_rfl) (by kernel_rfl) H fun kz h H=> ?_
       refine nE (vs:=[kz]) (gv:=gp) (by kernel_rfl) (by kernel_rfl) H fun v53 h H=> ?_
       refine aiF (vs:=[v53]) (gv:=gp) (by kernel_rfl) (by kernel_rfl) H (fun _ _ H=>False.elim H) fun lN h H=> ?_
       refine nE (vs:=[gq,lN]) (gv:=gp) (by kernel_rfl) (by kernel_rfl) H fun j9 h H=> ?_
       refine cj (vs:=[gp,(.bool true),j9]) (by kernel_rfl) H fun mL h H=> ?_
       refine fw ?_
       refine iw ?_
       refine vW (v:=mL) (by kernel_rfl) H (fun H=> ?_) (fun H=> ?_)
       · refine fu ?_
         refine cj (vs:=[v5]) (by kernel_rfl) H fun l9 h H=> ?_
         refine jS (v:=v46) (by kernel_rfl) ?_
         refine cj (vs:=[l9,v46,(.bool true)]) (by kernel_rfl) H fun kA h H=> ?_
         refine fw ?_
         refine vV ?_
         exact Eq.mp (by kernel_rfl) (And.intro (Eq.refl (⟨[],.off⟩:DS)) (And.intro (And.intro (Eq.refl (v1:Value)) (And.intro (Eq.refl (v2:Value)) (And.intro (Eq.refl (v5:Value)) (And.intro (Eq.refl (lu:Value)) (And.intro (Eq.refl (gn:Value)) trivial))))) H))
       · refine yH ?_
         refine vV ?_
         exact Eq.mp (by kernel_rfl) (And.intro (Eq.refl (⟨[],.off⟩:DS)) (And.intro (And.intro (Eq.refl (v1:Value)) (And.intro (Eq.refl (v2:Value)) (And.intro (Eq.refl (v5:Value)) (And.intro (Eq.refl (lu:Value)) (And.intro (Eq.refl (gn:Value)) trivial))))) H))
     · refine vW (v:=nA) (by kernel_rfl) H (fun H=> ?_) (fun H=> ?_)
       · refine yH ?_
         exact Eq.mp (by kernel_rfl) (And.intro (Eq.refl (⟨[],.off⟩:DS)) (And.intro (And.intro (Eq.refl (v1:Value)) (And.intro (Eq.refl (v2:Value)) (And.intro (Eq.refl (v5:Value)) (And.intro (Eq.refl (lu:Value)) (And.intro (Eq.refl (gn:Value)) trivial))))) H))
       · exact Eq.mp (by kernel_rfl) (And.intro (Eq.refl ([]:List gV)) H)
def PH (w0:World) (E R:Value→W) (y1:Value):W :=
 R y1
def PI (w0:World) (E R:Value→W) (y5:Value) (k3:Value→Value→W) (y7:Value):W :=
 pr (.aE .add) [y5,(vi 1)] fun v8 =>
 k3 y7 v8
def PJ (w0:World) (E R:Value→W) (x0 y5 x1 y4:Value) (k3:Value→Value→W):W :=
 pr (.bG 1) [x0,y5] fun v9 =>
 pr (.aH) [v9] fun v10 =>
 dy PP w0 [x1,v10] E fun v11 =>
 pr (.buildSlice 28 1 [cg] [(0,1)]) [v11] fun v12 =>
 pr (.append 28 1 [cg]) [y4,v12] fun cm =>
 PI w0 E R y5 k3 cm
def Jy (w0:World) (E R:Value→W) (v2 x0 x1:Value) (k3:Value→Value→W) (y4 y5:Value):W :=
 pr (.aE .lss) [y5,v2] fun v6 =>
 br v6 (
 PJ w0 E R x0 y5 x1 y4 k3) (
 PH w0 E R  y4)
def Zy (w0:World) (E R:Value→W) (x0 x1:Value):W :=
 pr (.dG) [x0] fun v2 =>
 LP (α:=Value×Value) (fun k a=>Jy w0 E R v2 x0 x1 (fun b0 b1=>k (b0,b1)) a.1 a.2) (cg,(vi 0))
theorem aiG {w0:World}{h:AH}{Q:CR→AH→Prop}(x0 x1:Value) (H:Zy w0 (fun v h=>Q (.aT v) h) (fun v h=>Q (.ret v) h) x0 x1 h):WF PP w0 PK [x0,x1] h Q :=
 eC bT e61 [[s5,vY]] (by kernel_rfl) (Eq.mp (by kernel_rfl) H)
def PL (w0:World) (E R:Value→W) (v5:Value):W :=
 cl PP w0 PK [v5,(fc Jv)] E fun v6 =>
 R v6
def Jz (w0:World) (E R:Value→W) (cn:Value) (nF:Value→Value→W) (aL:Value):W :=
 pr (.aE .sub) [cn,(vi 1)] fun dQ =>
 nF aL dQ
def PM (w0:World) (E R:Value→W) (v1 cn v5:Value) (nF:Value→Value→W) (bB:Value):W :=
 pr (.bV 7) [v1] fun c9 =>
 cl PP w0 PG [c9,cn,v5] E fun cX =>
 pr (.Bq) [cX] fun v20 =>
 pr (.bG 1) [v5,cn] fun v21 =>
 pr (.aH) [v21] fun dX =>
 pr (.Bq) [dX] fun dR =>
 pr (.aE .neq) [v20,dR] fun v24 =>
 br v24 (
 pr (.bG 1) [v5,cn] fun gI =>
 pr (.store 1) [gI,cX] fun fi =>
 Jz w0 E R cn nF (.bool true)) (
 Jz w0 E R cn nF bB)
def JA (w0:World) (E R:Value→W) (v1 v5:Value) (k7:Value→W) (nF:Value→Value→W) (bB cn:Value):W :=
 pr (.aE .geq) [cn,(vi 0)] fun eN =>
 br eN (
 PM w0 E R v1 cn v5 nF bB) (
 k7 bB)
def PN (w0:World) (E R:Value→W) (v1 v5:Value) (k7:Value→W):W :=
 pr (.fieldAddr 5) [v1] fun v9 =>
 pr (.aH) [v9] fun v10 =>
 pr (.dG) [v10] fun v11 =>
 pr (.aE .sub) [v11,(vi 1)] fun v12 =>
 LP (α:=Value×Value) (fun k a=>JA w0 E R v1 v5 k7 (fun b0 b1=>k (b0,b1)) a.1 a.2) ((.bool false),v12)
def JB (w0:World) (E R:Value→W) (v1 v5:Value) (k7:Value→W) (y8:Value):W :=
 br y8 (
 PN w0 E R v1 v5 k7) (
 PL w0 E R v5)
def PO (w0:World) (E R:Value→W) (v1:Value):W :=
 pr (.fieldAddr 5) [v1] fun v2 =>
 pr (.aH) [v2] fun v3 =>
 pr (.dG) [v3] fun v4 =>
 pr (.mkSlice 102 1 [(.map none)]) [v4,v4] fun v5 =>
 LP (α:=Value) (fun k a=>JB w0 E R v1 v5 k a) ((.bool true))
def Zz (w0:World) (E R:Value→W) (x0:Value):W :=
 pr (.box 25) [x0] fun v1 =>
 pr (.bV 7) [v1] fun v28 =>
 cl PP w0 Jq [v28] E fun fO =>
 pr (.ic) [fO] fun v30 =>
 br v30 (
 R cg) (
 PO w0 E R v1)
theorem aiH {w0:World}{h:AH}{Q:CR→AH→Prop}(x0:Value) (H:Zz w0 (fun v h=>Q (.aT v) h) (fun v h=>Q (.ret v) h) x0 h):WF PP w0 PS [x0] h Q :=
 eC bT e18 [[s4],[s4,s5]] (by kernel_rfl) (Eq.mp (by kernel_rfl) H)
def PU (w0:World) (E R:Value→W)  :W :=
 R (.bool true)
def PV (w0:World) (E R:Value→W) (y2:Value) (k1:Value→W):W :=
 pr (.aE .add) [y2,(vi 1)] fun v3 =>
 k1 v3
def PW (w0:World) (E R:Value→W) (x0 y2 x1:Value) (k1:Value→W):W :=
 pr (.bG 1) [x0,y2] fun v4 =>
 pr (.aH) [v4] fun v5 =>
 pr (.bG 1) [x1,y2] fun v6 =>
 pr (.aH) [v6] fun v7 =>
 cl PP w0 Js [v5,v7] E fun v8 =>
 pr (.ic) [v8] fun v9 =>
 br v9 (
 R (.bool false)) (
 PV w0 E R y2 k1)
def JC (w0:World) (E R:Value→W) (x0 x1:Value) (k1:Value→W) (y2:Value):W :=
 pr (.dG) [x0] fun v10 =>
 pr (.aE .lss) [y2,v10] fun v11 =>
 br v11 (
 PW w0 E R x0 y2 x1 k1) (
 PU w0 E R)
def PY (w0:World) (E R:Value→W) (x0 x1:Value):W :=
 LP (α:=Value) (fun k a=>JC w0 E R x0 x1 k a) ((vi 0))
def ZA (w0:World) (E R:Value→W) (x0 x1:Value):W :=
 pr (.dG) [x0] fun v12 =>
 pr (.dG) [x1] fun cm =>
 pr (.aE .neq) [v12,cm] fun cN =>
 br cN (
 R (.bool false)) (
 PY w0 E R x0 x1)
theorem aiI {w0:World}{h:AH}{Q:CR→AH→Prop}(x0 x1:Value) (H:ZA w0 (fun v h=>Q (.aT v) h) (fun v h=>Q (.ret v) h) x0 x1 h):WF PP w0 PZ [x0,x1] h Q :=
 eC bT e17 [[s5]] (by kernel_rfl) (Eq.mp (by kernel_rfl) H)
def P0 (w0:World) (E R:Value→W) (v1 cS:Value):W :=
 gd cS true (fun k=>pr (.fieldAddr 6) [v1] k) fun dQ =>
 gd cS true (fun k=>pr (.aH) [dQ] k) fun c9 =>
 gd cS true (fun k=>pr (.dG) [c9] k) fun cX =>
 gd cS true (fun k=>pr (.aE .leq) [cX,(vi 8)] k) fun v20 =>
 gd cS true (fun k=>k v20) fun v21 =>
 gd v21 false (fun k=>pr (.fieldAddr 6) [v1] k) fun dX =>
 gd v21 false (fun k=>pr (.aH) [dX] k) fun dR =>
 gd v21 false (fun k=>pr (.dG) [dR] k) fun v24 =>
 gd v21 false (fun k=>pr (.aE .gtr) [v24,(vi 40)] k) fun gI =>
 gd v21 false (fun k=>k gI) fun fi =>
 gd fi true (fun k=>pr (.fieldAddr 6) [v1] k) fun eN =>
 gd fi true (fun k=>pr (.aH) [eN] k) fun v28 =>
 gd fi true (fun k=>pr (.dG) [v28] k) fun fO =>
 gd fi true (fun k=>pr (.aE .leq) [fO,(vi 60)] k) fun v30 =>
 gd v21 false (fun k=>pr (.pick) [fi,v30,(.bool false)] k) fun v31 =>
 gd cS true (fun k=>pr (.pick) [v21,(.bool true),v31] k) fun l8 =>
 pr (.pick) [cS,l8,(.bool false)] fun mH =>
 R mH
def ZB (w0:World) (E R:Value→W) (x0:Value):W :=
 pr (.box 25) [x0] fun v1 =>
 pr (.fieldAddr 5) [v1] fun v2 =>
 pr (.aH) [v2] fun v3 =>
 pr (.dG) [v3] fun v4 =>
 pr (.aE .leq) [v4,(vi 40)] fun v5 =>
 gd v5 false (fun k=>pr (.fieldAddr 5) [v1] k) fun v6 =>
 gd v5 false (fun k=>pr (.aH) [v6] k) fun v7 =>
 gd v5 false (fun k=>pr (.dG) [v7] k) fun v8 =>
 gd v5 false (fun k=>pr (.aE .gtr) [v8,(vi 600)] k) fun v9 =>
 gd v5 false (fun k=>k v9) fun v10 =>
 gd v10 true (fun k=>pr (.fieldAddr 5) [v1] k) fun v11 =>
 gd v10 true (fun k=>pr (.aH) [v11] k) fun v12 =>
 gd v10 true (fun k=>pr (.dG) [v12] k) fun cm =>
 gd v10 true (fun k=>pr (.aE .leq) [cm,(vi 700)] k) fun cN =>
 gd v5 false (fun k=>pr (.pick) [v10,cN,(.bool false)] k) fun cx =>
 pr (.pick) [v5,(.bool true),cx] fun cS =>
 P0 w0 E R v1 cS
theorem aiJ {w0:World}{h:AH}{Q:CR→AH→Prop}(x0:Value) (H:ZB w0 (fun v h=>Q (.aT v) h) (fun v h=>Q (.ret v) h) x0 h):WF PP w0 P1 [x0] h Q :=
 eC bT e13 [] (by kernel_rfl) (Eq.mp (by kernel_rfl) H)
def ZC (w0:World) (E R:Value→W) (x0 x1 x2:Value):W :=
 pr (.aE .leq) [x1,x0] fun v1 =>
 gd v1 true (fun k=>k x0) fun v2 =>
 gd v1 true (fun k=>k x2) fun v3 =>
 gd v1 true (fun k=>pr (.aE .leq) [v2,v3] k) fun v4 =>
 pr (.pick) [v1,v4,(.bool false)] fun v5 =>
 R v5
theorem aiK {w0:World}{h:AH}{Q:CR→AH→Prop}(x0 x1 x2:Value) (H:ZC w0 (fun v h=>Q (.aT v) h) (fun v h=>Q (.ret v) h) x0 x1 x2 h):WF PP w0 vZ [x0,x1,x2] h Q :=
 eC bT e58 [] (by kernel_rfl) (Eq.mp (by kernel_rfl) H)
def P2 (w0:World) (E R:Value→W) (v1:Value):W :=
 pr (.build [(vi 0),(vi 0),(vi 0),(vi 0),(vi 0),(vi 0),(.bool false)] []) [] fun v2 =>
 pr (.store 7) [v1,v2] fun v3 =>
 ld (.bV 7) [v1] fun v4 =>
 R (.tuple ⟨[v4,(.bool false)]⟩)
def Ee (w0:World) (E R:Value→W) (v1 x0 o4:Value):W :=
 br o4 (
 pr (.eo [1,1,1]) [(vi 1),(vi 1),(vi 1)] fun mH =>
 pr (.eo [1,1]) [(vi 2),(vi 3)] fun jh =>
 pr (.build [(vi 0),(vi 0),(vi 0),(vi 0),(vi 0),(vi 0),(.bool false)] [(0,3),(3,1),(4,2)]) [mH,(vi 1),jh] fun j8 =>
 pr (.store 7) [v1,j8] fun n3 =>
 ld (.bV 7) [v1] fun v37 =>
 R (.tuple ⟨[v37,(.bool true)]⟩)) (
 pr (.aE .eql) [x0,(vi 17)] fun kQ =>
 br kQ (
 pr (.eo [1,1,1]) [(vi 1),(vi 2),(vi 5)] fun cH =>
 pr (.eo [1,1]) [(vi 2),(vi 0)] fun v40 =>
 pr (.eo [3,1,2,1]) [cH,(vi 1),v40,(.bool true)] fun gn =>
 pr (.store 7) [v1,gn] fun jy =>
 ld (.bV 7) [v1] fun jq =>
 R (.tuple ⟨[jq,(.bool true)]⟩)) (
 pr (.aE .eql) [x0,(vi 18)] fun nA =>
 br nA (
 pr (.eo [1,1,1]) [(vi 5),(vi 1),(vi 0)] fun l7 =>
 pr (.eo [1,1]) [(vi 2),(vi 0)] fun v46 =>
 pr (.build [(vi 0),(vi 0),(vi 0),(vi 0),(vi 0),(vi 0),(.bool false)] [(0,3),(4,2)]) [l7,v46] fun gp =>
 pr (.store 7) [v1,gp] fun gq =>
 ld (.bV 7) [v1] fun v49 =>
 R (.tuple ⟨[v49,(.bool true)]⟩)) (
 pr (.aE .eql) [x0,(vi 19)] fun n4 =>
 br n4 (
 pr (.eo [1,1,1]) [(vi 6),(vi 1),(vi 0)] fun v51 =>
 pr (.eo [1,1]) [(vi 2),(vi 0)] fun kz =>
 pr (.build [(vi 0),(vi 0),(vi 0),(vi 0),(vi 0),(vi 0),(.bool false)] [(0,3),(4,2)]) [v51,kz] fun v53 =>
 pr (.store 7) [v1,v53] fun lN =>
 ld (.bV 7) [v1] fun j9 =>
 R (.tuple ⟨[j9,(.bool true)]⟩)) (
 pr (.aE .eql) [x0,(vi 20)] fun mL =>
 br mL (
 pr (.eo [1,1,1]) [(vi 7),(vi 2),(vi 8)] fun l9 =>
 pr (.eo [1,1]) [(vi 2),(vi 0)] fun kA =>
 pr (.eo [3,1,2,1]) [l9,(vi 1),kA,(.bool true)] fun v59 =>
 pr (.store 7) [v1,v59] fun er =>
 ld (.bV 7) [v1] fun n7 =>
 R (.tuple ⟨[n7,(.bool true)]⟩)) (
 pr (.aE .eql) [x0,(vi 21)] fun yN =>
 br yN (
 pr (.eo [1,1,1]) [(vi 1),(vi 9),(vi 4)] fun gr =>
 pr (.build [(vi 0),(vi 0),(vi 0),(vi 0),(vi 0),(vi 0),(.bool false)] [(0,3),(3,1),(6,1)]) [gr,(vi 1),(.bool true)] fun tW =>
 pr (.store 7) [v1,tW] fun vS =>
 ld (.bV 7) [v1] fun sd =>
 R (.tuple ⟨[sd,(.bool true)]⟩)) (
 pr (.aE .eql) [x0,(vi 22)] fun ft =>
 br ft (
 pr (.eo [1,1,1]) [(vi 1),(vi 10),(vi 0)] fun lO =>
 pr (.eo [1,1]) [(vi 1),(vi 0)] fun yC =>
 pr (.build [(vi 0),(vi 0),(vi 0),(vi 0),(vi 0),(vi 0),(.bool false)] [(0,3),(4,2),(6,1)]) [lO,yC,(.bool true)] fun v70 =>
 pr (.store 7) [v1,v70] fun n6 =>
 ld (.bV 7) [v1] fun v72 =>
 R (.tuple ⟨[v72,(.bool true)]⟩)) (
 pr (.aE .eql) [x0,(vi 23)] fun tX =>
 br tX (
 pr (.eo [1,1,1]) [(vi 2),(vi 0),(vi 0)] fun qL =>
 pr (.eo [1,1]) [(vi 1),(vi 0)] fun v75 =>
 pr (.build [(vi 0),(vi 0),(vi 0),(vi 0),(vi 0),(vi 0),(.bool false)] [(0,3),(4,2),(6,1)]) [qL,v75,(.bool true)] fun v76 =>
 pr (.store 7) [v1,v76] fun sf =>
 ld (.bV 7) [v1] fun vT =>
 R (.tuple ⟨[vT,(.bool true)]⟩)) (
 pr (.aE .eql) [x0,(vi 24)] fun tY =>
 br tY (
 pr (.eo [1,1,1]) [(vi 11),(vi 0),(vi 0)] fun v80 =>
 pr (.build [(vi 0),(vi 0),(vi 0),(vi 0),(vi 0),(vi 0),(.bool false)] [(0,3)]) [v80] fun gw =>
 pr (.store 7) [v1,gw] fun sh =>
 ld (.bV 7) [v1] fun tZ =>
 R (.tuple ⟨[tZ,(.bool true)]⟩)) (
 pr (.aE .eql) [x0,(vi 25)] fun ua =>
 br ua (
 pr (.eo [1,1,1]) [(vi 1),(vi 11),(vi 0)] fun v85 =>
 pr (.eo [1,1]) [(vi 1),(vi 0)] fun mJ =>
 pr (.build [(vi 0),(vi 0),(vi 0),(vi 0),(vi 0),(vi 0),(.bool false)] [(0,3),(4,2)]) [v85,mJ] fun v87 =>
 pr (.store 7) [v1,v87] fun vU =>
 ld (.bV 7) [v1] fun lP =>
 R (.tuple ⟨[lP,(.bool true)]⟩)) (
 pr (.aE .eql) [x0,(vi 26)] fun yD =>
 br yD (
 pr (.eo [1,1,1]) [(vi 12),(vi 0),(vi 0)] fun v91 =>
 pr (.build [(vi 0),(vi 0),(vi 0),(vi 0),(vi 0),(vi 0),(.bool false)] [(0,3),(6,1)]) [v91,(.bool true)] fun ub =>
 pr (.store 7) [v1,ub] fun v93 =>
 ld (.bV 7) [v1] fun uc =>
 R (.tuple ⟨[uc,(.bool true)]⟩)) (
 pr (.aE .eql) [x0,(vi 27)] fun ud =>
 br ud (
 pr (.build [(vi 0),(vi 0),(vi 0),(vi 0),(vi 0),(vi 0),(.bool false)] [(6,1)]) [(.bool true)] fun Ef =>
 pr (.store 7) [v1,Ef] fun JD =>
 ld (.bV 7) [v1] fun Eg =>
 R (.tuple ⟨[Eg,(.bool true)]⟩)) (
 pr (.aE .eql) [x0,(vi 28)] fun Eh =>
 br Eh (
 pr (.eo [1,1,1]) [(vi 2),(vi 0),(vi 0)] fun pQ =>
 pr (.eo [1,1]) [(vi 1),(vi 0)] fun Ei =>
 pr (.build [(vi 0),(vi 0),(vi 0),(vi 0),(vi 0),(vi 0),(.bool false)] [(0,3),(4,2)]) [pQ,Ei] fun JE =>
 pr (.store 7) [v1,JE] fun JF =>
 ld (.bV 7) [v1] fun qO =>
 R (.tuple ⟨[qO,(.bool true)]⟩)) (
 pr (.aE .eql) [x0,(vi 29)] fun v105 =>
 br v105 (
 pr (.eo [1,1,1]) [(vi 1),(vi 0),(vi 0)] fun Ej =>
 pr (.eo [1,1]) [(vi 1),(vi 0)] fun v107 =>
 pr (.build [(vi 0),(vi 0),(vi 0),(vi 0),(vi 0),(vi 0),(.bool false)] [(0,3),(4,2)]) [Ej,v107] fun Ek =>
 pr (.store 7) [v1,Ek] fun v109 =>
 ld (.bV 7) [v1] fun P3 =>
 R (.tuple ⟨[P3,(.bool true)]⟩)) (
 pr (.aE .eql) [x0,(vi 30)] fun nH =>
 br nH (
 pr (.eo [1,1,1]) [(vi 1),(vi 0),(vi 0)] fun P4 =>
 pr (.eo [1,1]) [(vi 1),(vi 0)] fun P5 =>
 pr (.build [(vi 0),(vi 0),(vi 0),(vi 0),(vi 0),(vi 0),(.bool false)] [(0,3),(4,2),(6,1)]) [P4,P5,(.bool true)] fun El =>
 pr (.store 7) [v1,El] fun JG =>
 ld (.bV 7) [v1] fun pR =>
 R (.tuple ⟨[pR,(.bool true)]⟩)) (
 pr (.aE .eql) [x0,(vi 31)] fun v117 =>
 br v117 (
 pr (.build [(vi 0),(vi 0),(vi 0),(vi 0),(vi 0),(vi 0),(.bool false)] []) [] fun JH =>
 pr (.store 7) [v1,JH] fun JI =>
 ld (.bV 7) [v1] fun qP =>
 R (.tuple ⟨[qP,(.bool true)]⟩)) (
 pr (.aE .eql) [x0,(vi 32)] fun Em =>
 br Em (
 pr (.eo [1,1,1]) [(vi 1),(vi 11),(vi 0)] fun En =>
 pr (.eo [1,1]) [(vi 1),(vi 0)] fun Br =>
 pr (.build [(vi 0),(vi 0),(vi 0),(vi 0),(vi 0),(vi 0),(.bool false)] [(0,3),(4,2),(6,1)]) [En,Br,(.bool true)] fun v124 =>
 pr (.store 7) [v1,v124] fun ZD =>
 ld (.bV 7) [v1] fun uh =>
 R (.tuple ⟨[uh,(.bool true)]⟩)) (
 pr (.aE .eql) [x0,(vi 33)] fun v127 =>
 br v127 (
 pr (.eo [1,1,1]) [(vi 1),(vi 13),(vi 0)] fun P6 =>
 pr (.build [(vi 0),(vi 0),(vi 0),(vi 0),(vi 0),(vi 0),(.bool false)] [(0,3),(3,1)]) [P6,(vi 1)] fun P7 =>
 pr (.store 7) [v1,P7] fun v130 =>
 ld (.bV 7) [v1] fun v131 =>
 R (.tuple ⟨[v131,(.bool true)]⟩)) (
 pr (.aE .eql) [x0,(vi 34)] fun P8 =>
 br P8 (
 pr (.eo [1,1,1]) [(vi 13),(vi 1),(vi 0)] fun P9 =>
 pr (.eo [1,1]) [(vi 2),(vi 0)] fun sr =>
 pr (.build [(vi 0),(vi 0),(vi 0),(vi 0),(vi 0),(vi 0),(.bool false)] [(0,3),(4,2)]) [P9,sr] fun Qa =>
 pr (.store 7) [v1,Qa] fun ZE =>
 ld (.bV 7) [v1] fun Qb =>
 R (.tuple ⟨[Qb,(.bool true)]⟩)) (
 P2 w0 E R v1)))))))))))))))))))
def yO (w0:World) (E R:Value→W) (v1 x0 Bs:Value):W :=
 br Bs (
 pr (.eo [1,1,1]) [(vi 1),(vi 1),(vi 1)] fun eN =>
 pr (.eo [1,1]) [(vi 2),(vi 3)] fun v28 =>
 pr (.eo [3,1,2,1]) [eN,(vi 1),v28,(.bool true)] fun fO =>
 pr (.store 7) [v1,fO] fun v30 =>
 ld (.bV 7) [v1] fun v31 =>
 R (.tuple ⟨[v31,(.bool true)]⟩)) (
 pr (.aE .eql) [x0,(vi 12)] fun v138 =>
 br v138 (
 Ee w0 E R v1 x0 v138) (
 pr (.aE .eql) [x0,(vi 13)] fun v139 =>
 br v139 (
 Ee w0 E R v1 x0 v139) (
 pr (.aE .eql) [x0,(vi 14)] fun Qc =>
 Ee w0 E R v1 x0 Qc)))
def Bt (w0:World) (E R:Value→W) (v1 x0 aZ:Value):W :=
 br aZ (
 pr (.eo [1,1,1]) [(vi 1),(vi 1),(vi 0)] fun v21 =>
 pr (.eo [1,1]) [(vi 2),(vi 0)] fun dX =>
 pr (.build [(vi 0),(vi 0),(vi 0),(vi 0),(vi 0),(vi 0),(.bool false)] [(0,3),(3,1),(4,2)]) [v21,(vi 1),dX] fun dR =>
 pr (.store 7) [v1,dR] fun v24 =>
 ld (.bV 7) [v1] fun gI =>
 R (.tuple ⟨[gI,(.bool true)]⟩)) (
 pr (.aE .eql) [x0,(vi 6)] fun v141 =>
 br v141 (
 yO w0 E R v1 x0 v141) (
 pr (.aE .eql) [x0,(vi 7)] fun JJ =>
 br JJ (
 yO w0 E R v1 x0 JJ) (
 pr (.aE .eql) [x0,(vi 8)] fun v143 =>
 br v143 (
 yO w0 E R v1 x0 v143) (
 pr (.aE .eql) [x0,(vi 9)] fun JK =>
 br JK (
 yO w0 E R v1 x0 JK) (
 pr (.aE .eql) [x0,(vi 10)] fun v145 =>
 yO w0 E R v1 x0 v145)))))
def JL (w0:World) (E R:Value→W) (v1 x0 cn:Value):W :=
 br cn (
 pr (.eo [1,1,1]) [(vi 1),(vi 0),(vi 0)] fun cS =>
 pr (.build [(vi 0),(vi 0),(vi 0),(vi 0),(vi 0),(vi 0),(.bool false)] [(0,3),(3,1)]) [cS,(vi 1)] fun dQ =>
 pr (.store 7) [v1,dQ] fun c9 =>
 ld (.bV 7) [v1] fun cX =>
 R (.tuple ⟨[cX,(.bool true)]⟩)) (
 pr (.aE .eql) [x0,(vi 4)] fun v146 =>
 br v146 (
 Bt w0 E R v1 x0 v146) (
 pr (.aE .eql) [x0,(vi 11)] fun JM =>
 br JM (
 Bt w0 E R v1 x0 JM) (
 pr (.aE .eql) [x0,(vi 15)] fun v148 =>
 br v148 (
 Bt w0 E R v1 x0 v148) (
 pr (.aE .eql) [x0,(vi 16)] fun ZF =>
 Bt w0 E R v1 x0 ZF))))
def ZG (w0:World) (E R:Value→W) (x0:Value):W :=
 pr (.alloc 148 [(vi 0),(vi 0),(vi 0),(vi 0),(vi 0),(vi 0),(.bool false)]) [] fun v1 =>
 pr (.aE .eql) [x0,(vi 1)] fun v5 =>
 br v5 (
 pr (.eo [1,1,1]) [(vi 1),(vi 3),(vi 0)] fun v6 =>
 pr (.build [(vi 0),(vi 0),(vi 0),(vi 0),(vi 0),(vi 0),(.bool false)] [(0,3),(3,1)]) [v6,(vi 1)] fun v7 =>
 pr (.store 7) [v1,v7] fun v8 =>
 ld (.bV 7) [v1] fun v9 =>
 R (.tuple ⟨[v9,(.bool true)]⟩)) (
 pr (.aE .eql) [x0,(vi 2)] fun v10 =>
 br v10 (
 pr (.eo [1,1,1]) [(vi 1),(vi 4),(vi 0)] fun v11 =>
 pr (.build [(vi 0),(vi 0),(vi 0),(vi 0),(vi 0),(vi 0),(.bool false)] [(0,3),(3,1)]) [v11,(vi 1)] fun v12 =>
 pr (.store 7) [v1,v12] fun cm =>
 ld (.bV 7) [v1] fun cN =>
 R (.tuple ⟨[cN,(.bool true)]⟩)) (
 pr (.aE .eql) [x0,(vi 3)] fun JN =>
 br JN (
 JL w0 E R v1 x0 JN) (
 pr (.aE .eql) [x0,(vi 5)] fun Qd =>
 JL w0 E R v1 x0 Qd)))
theorem aiL {w0:World}{h:AH}{Q:CR→AH→Prop}(x0:Value) (H:ZG w0 (fun v h=>Q (.aT v) h) (fun v h=>Q (.ret v) h) x0 h):WF PP w0 Bu [x0] h Q :=
 eC bT e88 [] (by kernel_rfl) (Eq.mp (by kernel_rfl) H)
def Qe (w0:World) (E R:Value→W)  :W :=
 R (.tuple ⟨[(vi 0),(.bool false)]⟩)
def Qf (w0:World) (E R:Value→W) (v1 v8:Value):W :=
 br v8 (
 pr (.fieldAddr 2) [v1] fun v9 =>
 pr (.aH) [v9] fun v10 =>
 R (.tuple ⟨[v10,(.bool true)]⟩)) (
 Qe w0 E R)
def Qg (w0:World) (E R:Value→W) (v1:Value):W :=
 pr (.fieldAddr 0) [v1] fun v2 =>
 pr (.aH) [v2] fun v3 =>
 pr (.aE .eql) [v3,(vi 25)] fun v4 =>
 gd v4 false (fun k=>pr (.fieldAddr 0) [v1] k) fun v5 =>
 gd v4 false (fun k=>pr (.aH) [v5] k) fun v6 =>
 gd v4 false (fun k=>pr (.aE .eql) [v6,(vi 32)] k) fun v7 =>
 pr (.pick) [v4,(.bool true),v7] fun v8 =>
 Qf w0 E R v1 v8
def ZH (w0:World) (E R:Value→W) (x0:Value):W :=
 pr (.box 67) [x0] fun v1 =>
 pr (.fieldAddr 0) [v1] fun v11 =>
 pr (.aH) [v11] fun v12 =>
 pr (.aE .eql) [v12,(vi 24)] fun cm =>
 br cm (
 pr (.fieldAddr 1) [v1] fun cN =>
 pr (.aH) [cN] fun cx =>
 R (.tuple ⟨[cx,(.bool true)]⟩)) (
 Qg w0 E R v1)
theorem aiM {w0:World}{h:AH}{Q:CR→AH→Prop}(x0:Value) (H:ZH w0 (fun v h=>Q (.aT v) h) (fun v h=>Q (.ret v) h) x0 h):WF PP w0 Eo [x0] h Q :=
 eC bT e57 [] (by kernel_rfl) (Eq.mp (by kernel_rfl) H)
def Qh (w0:World) (E R:Value→W)  :W :=
 R (.bool true)
def Qi (w0:World) (E R:Value→W) (y6:Value) (k5:Value→W):W :=
 pr (.aE .add) [y6,(vi 1)] fun v7 =>
 k5 v7
def Qj (w0:World) (E R:Value→W) (y6:Value) (k5:Value→W) (jh:Value):W :=
 br jh (
 R (.bool false)) (
 Qi w0 E R y6 k5)
def Qk (w0:World) (E R:Value→W) (v12 v4 y6:Value) (k5:Value→W) (eN:Value):W :=
 gd eN false (fun k=>pr (.fieldAddr 2) [v12] k) fun v28 =>
 gd eN false (fun k=>pr (.aH) [v28] k) fun fO =>
 gd eN false (fun k=>k v4) fun v30 =>
 gd eN false (fun k=>pr (.aE .sub) [v30,(vi 1)] k) fun v31 =>
 gd eN false (fun k=>cl PP w0 vZ [fO,(vi 0),v31] E k) fun l8 =>
 gd eN false (fun k=>pr (.ic) [l8] k) fun mH =>
 pr (.pick) [eN,(.bool true),mH] fun jh =>
 Qj w0 E R y6 k5 jh
def Ql (w0:World) (E R:Value→W) (v12 v4 y6:Value) (k5:Value→W) (dX:Value):W :=
 gd dX false (fun k=>pr (.fieldAddr 1) [v12] k) fun dR =>
 gd dX false (fun k=>pr (.aH) [dR] k) fun v24 =>
 gd dX false (fun k=>k v4) fun gI =>
 gd dX false (fun k=>pr (.aE .gtr) [v24,gI] k) fun fi =>
 pr (.pick) [dX,(.bool true),fi] fun eN =>
 Qk w0 E R v12 v4 y6 k5 eN
def Qm (w0:World) (E R:Value→W) (v1 y6 v4:Value) (k5:Value→W):W :=
 pr (.fieldAddr 6) [v1] fun v8 =>
 pr (.aH) [v8] fun v9 =>
 pr (.bG 3) [v9,y6] fun v10 =>
 pr (.bV 3) [v10] fun v11 =>
 pr (.alloc 79 [(vi 0),(vi 0),(vi 0)]) [] fun v12 =>
 pr (.store 3) [v12,v11] fun cm =>
 pr (.fieldAddr 0) [v12] fun cN =>
 pr (.aH) [cN] fun cx =>
 pr (.aE .lss) [cx,(vi 0)] fun cS =>
 gd cS false (fun k=>pr (.fieldAddr 0) [v12] k) fun dQ =>
 gd cS false (fun k=>pr (.aH) [dQ] k) fun c9 =>
 gd cS false (fun k=>pr (.fieldAddr 1) [v12] k) fun cX =>
 gd cS false (fun k=>pr (.aH) [cX] k) fun v20 =>
 gd cS false (fun k=>pr (.aE .geq) [c9,v20] k) fun v21 =>
 pr (.pick) [cS,(.bool true),v21] fun dX =>
 Ql w0 E R v12 v4 y6 k5 dX
def JO (w0:World) (E R:Value→W) (v1 v4:Value) (k5:Value→W) (y6:Value):W :=
 pr (.fieldAddr 6) [v1] fun j8 =>
 pr (.aH) [j8] fun n3 =>
 pr (.dG) [n3] fun v37 =>
 pr (.aE .lss) [y6,v37] fun kQ =>
 br kQ (
 Qm w0 E R v1 y6 v4 k5) (
 Qh w0 E R)
def Qn (w0:World) (E R:Value→W) (v1 v4:Value):W :=
 LP (α:=Value) (fun k a=>JO w0 E R v1 v4 k a) ((vi 0))
def Qo (w0:World) (E R:Value→W) (dk:Value) (lv:Value→W):W :=
 pr (.aE .add) [dk,(vi 1)] fun gn =>
 lv gn
def Qp (w0:World) (E R:Value→W) (dk:Value) (lv:Value→W) (lO:Value):W :=
 br lO (
 R (.bool false)) (
 Qo w0 E R dk lv)
def Qq (w0:World) (E R:Value→W) (v1 dk v4:Value) (lv:Value→W):W :=
 pr (.fieldAddr 5) [v1] fun jy =>
 pr (.aH) [jy] fun jq =>
 pr (.bG 4) [jq,dk] fun nA =>
 pr (.fieldAddr 0) [nA] fun l7 =>
 pr (.aH) [l7] fun v46 =>
 cl PP w0 Bu [v46] E fun gp =>
 pr (.extract 0) [gp] fun gq =>
 pr (.extract 1) [gp] fun v49 =>
 pr (.alloc 148 [(vi 0),(vi 0),(vi 0),(vi 0),(vi 0),(vi 0),(.bool false)]) [] fun n4 =>
 pr (.store 7) [n4,gq] fun v51 =>
 pr (.fieldAddr 5) [v1] fun kz =>
 pr (.aH) [kz] fun v53 =>
 pr (.bG 4) [v53,dk] fun lN =>
 pr (.bV 4) [lN] fun j9 =>
 cl PP w0 Eo [j9] E fun mL =>
 pr (.extract 0) [mL] fun l9 =>
 pr (.extract 1) [mL] fun kA =>
 pr (.ic) [v49] fun v59 =>
 gd v59 false (fun k=>k kA) fun er =>
 gd v59 false (fun k=>k er) fun n7 =>
 gd n7 true (fun k=>k l9) fun yN =>
 gd n7 true (fun k=>k v4) fun gr =>
 gd n7 true (fun k=>pr (.aE .sub) [gr,(vi 1)] k) fun tW =>
 gd n7 true (fun k=>cl PP w0 vZ [yN,(vi 0),tW] E k) fun vS =>
 gd n7 true (fun k=>pr (.ic) [vS] k) fun sd =>
 gd v59 false (fun k=>pr (.pick) [n7,sd,(.bool false)] k) fun ft =>
 pr (.pick) [v59,(.bool true),ft] fun lO =>
 Qp w0 E R dk lv lO
def JP (w0:World) (E R:Value→W) (v4 v1:Value) (lv:Value→W) (dk:Value):W :=
 pr (.aE .lss) [dk,v4] fun yC =>
 br yC (
 Qq w0 E R v1 dk v4 lv) (
 Qn w0 E R v1 v4)
def Qr (w0:World) (E R:Value→W) (v4 v1:Value):W :=
 LP (α:=Value) (fun k a=>JP w0 E R v4 v1 k a) ((vi 0))
def Qs (w0:World) (E R:Value→W) (v4 v1 mJ:Value):W :=
 br mJ (
 R (.bool false)) (
 Qr w0 E R v4 v1)
def Qt (w0:World) (E R:Value→W) (v1 v4 gw:Value):W :=
 gd gw false (fun k=>pr (.fieldAddr 4) [v1] k) fun sh =>
 gd gw false (fun k=>pr (.aH) [sh] k) fun tZ =>
 gd gw false (fun k=>cl PP w0 vZ [tZ,(vi 0),(vi 200)] E k) fun ua =>
 gd gw false (fun k=>pr (.ic) [ua] k) fun v85 =>
 pr (.pick) [gw,(.bool true),v85] fun mJ =>
 Qs w0 E R v4 v1 mJ
def Qu (w0:World) (E R:Value→W) (v1 v4 v76:Value):W :=
 gd v76 false (fun k=>pr (.fieldAddr 3) [v1] k) fun sf =>
 gd v76 false (fun k=>pr (.aH) [sf] k) fun vT =>
 gd v76 false (fun k=>cl PP w0 vZ [vT,(vi 0),(vi 200)] E k) fun tY =>
 gd v76 false (fun k=>pr (.ic) [tY] k) fun v80 =>
 pr (.pick) [v76,(.bool true),v80] fun gw =>
 Qt w0 E R v1 v4 gw
def ZI (w0:World) (E R:Value→W) (x0:Value):W :=
 pr (.box 25) [x0] fun v1 =>
 pr (.fieldAddr 5) [v1] fun v2 =>
 pr (.aH) [v2] fun v3 =>
 pr (.dG) [v3] fun v4 =>
 cl PP w0 vZ [v4,(vi 1),(vi 600)] E fun v70 =>
 pr (.ic) [v70] fun n6 =>
 gd n6 false (fun k=>pr (.fieldAddr 6) [v1] k) fun v72 =>
 gd n6 false (fun k=>pr (.aH) [v72] k) fun tX =>
 gd n6 false (fun k=>pr (.dG) [tX] k) fun qL =>
 gd n6 false (fun k=>pr (.aE .gtr) [qL,(vi 40)] k) fun v75 =>
 pr (.pick) [n6,(.bool true),v75] fun v76 =>
 Qu w0 E R v1 v4 v76
theorem aiN {w0:World}{h:AH}{Q:CR→AH→Prop}(x0:Value) (H:ZI w0 (fun v h=>Q (.aT v) h) (fun v h=>Q (.ret v) h) x0 h):WF PP w0 JQ [x0] h Q :=
 eC bT e55 [[s4],[s9]] (by kernel_rfl) (Eq.mp (by kernel_rfl) H)
def Qv (w0:World) (E R:Value→W) (v1 v12:Value):W :=
 gd v12 false (fun k=>pr (.fieldAddr 0) [v1] k) fun cm =>
 gd v12 false (fun k=>pr (.aH) [cm] k) fun cN =>
 gd v12 false (fun k=>pr (.aE .eql) [cN,(vi 28)] k) fun cx =>
 pr (.pick) [v12,(.bool true),cx] fun cS =>
 R cS
def Qw (w0:World) (E R:Value→W) (v1 v8:Value):W :=
 gd v8 false (fun k=>pr (.fieldAddr 0) [v1] k) fun v9 =>
 gd v8 false (fun k=>pr (.aH) [v9] k) fun v10 =>
 gd v8 false (fun k=>pr (.aE .eql) [v10,(vi 27)] k) fun v11 =>
 pr (.pick) [v8,(.bool true),v11] fun v12 =>
 Qv w0 E R v1 v12
def ZJ (w0:World) (E R:Value→W) (x0:Value):W :=
 pr (.box 67) [x0] fun v1 =>
 pr (.fieldAddr 0) [v1] fun v2 =>
 pr (.aH) [v2] fun v3 =>
 pr (.aE .eql) [v3,(vi 24)] fun v4 =>
 gd v4 false (fun k=>pr (.fieldAddr 0) [v1] k) fun v5 =>
 gd v4 false (fun k=>pr (.aH) [v5] k) fun v6 =>
 gd v4 false (fun k=>pr (.aE .eql) [v6,(vi 26)] k) fun v7 =>
 pr (.pick) [v4,(.bool true),v7] fun v8 =>
 Qw w0 E R v1 v8
theorem aiO {w0:World}{h:AH}{Q:CR→AH→Prop}(x0:Value) (H:ZJ w0 (fun v h=>Q (.aT v) h) (fun v h=>Q (.ret v) h) x0 h):WF PP w0 Qx [x0] h Q :=
 eC bT e92 [] (by kernel_rfl) (Eq.mp (by kernel_rfl) H)
def Qy (w0:World) (E R:Value→W) (x1 x0:Value):W :=
 pr (.buildSlice 3 1 [(vi 0)] [(0,1)]) [x1] fun v1 =>
 pr (.append 3 1 [(vi 0)]) [x0,v1] fun v2 =>
 R v2
def Qz (w0:World) (E R:Value→W) (y4:Value) (k3:Value→W):W :=
 pr (.aE .add) [y4,(vi 1)] fun v5 =>
 k3 v5
def QA (w0:World) (E R:Value→W) (x0 y4 x1:Value) (k3:Value→W):W :=
 pr (.bG 1) [x0,y4] fun v6 =>
 pr (.aH) [v6] fun v7 =>
 pr (.aE .eql) [v7,x1] fun v8 =>
 br v8 (
 R x0) (
 Qz w0 E R y4 k3)
def JR (w0:World) (E R:Value→W) (x0 x1:Value) (k3:Value→W) (y4:Value):W :=
 pr (.dG) [x0] fun v9 =>
 pr (.aE .lss) [y4,v9] fun v10 =>
 br v10 (
 QA w0 E R x0 y4 x1 k3) (
 Qy w0 E R x1 x0)
def ZK (w0:World) (E R:Value→W) (x0 x1:Value):W :=
 LP (α:=Value) (fun k a=>JR w0 E R x0 x1 k a) ((vi 0))
theorem aiP {w0:World}{h:AH}{Q:CR→AH→Prop}(x0 x1:Value) (H:ZK w0 (fun v h=>Q (.aT v) h) (fun v h=>Q (.ret v) h) x0 x1 h):WF PP w0 Bv [x0,x1] h Q :=
 eC bT e63 [[s5]] (by kernel_rfl) (Eq.mp (by kernel_rfl) H)
def JS (w0:World) (E R:Value→W) (bK:Value):W :=
 R bK
def JT (w0:World) (E R:Value→W) (v6 y8:Value):W :=
 pr (.bV 4) [v6] fun v9 =>
 cl PP w0 Eo [v9] E fun v10 =>
 pr (.extract 0) [v10] fun v11 =>
 pr (.extract 1) [v10] fun v12 =>
 br v12 (
 cl PP w0 Bv [y8,v11] E fun cN =>
 JS w0 E R  cN) (
 JS w0 E R  y8)
def QB (w0:World) (E R:Value→W) (x1 v6 v24:Value):W :=
 br v24 (
 pr (.aE .add) [x1,(vi 1)] fun gI =>
 pr (.buildSlice 3 1 [(vi 0)] [(0,1)]) [gI] fun fi =>
 pr (.append 3 1 [(vi 0)]) [cg,fi] fun eN =>
 JT w0 E R v6 eN) (
 JT w0 E R v6 cg)
def ZL (w0:World) (E R:Value→W) (x0 x1:Value):W :=
 pr (.box 25) [x0] fun v1 =>
 pr (.fieldAddr 5) [v1] fun v2 =>
 pr (.aH) [v2] fun v3 =>
 pr (.bG 4) [v3,x1] fun v4 =>
 pr (.bV 4) [v4] fun v5 =>
 pr (.alloc 67 [(vi 0),(vi 0),(vi 0),(vi 0)]) [] fun v6 =>
 pr (.store 4) [v6,v5] fun v7 =>
 pr (.bV 4) [v6] fun cx =>
 cl PP w0 Qx [cx] E fun cS =>
 pr (.ic) [cS] fun dQ =>
 gd dQ true (fun k=>k x1) fun c9 =>
 gd dQ true (fun k=>pr (.aE .add) [c9,(vi 1)] k) fun cX =>
 gd dQ true (fun k=>pr (.fieldAddr 5) [v1] k) fun v20 =>
 gd dQ true (fun k=>pr (.aH) [v20] k) fun v21 =>
 gd dQ true (fun k=>pr (.dG) [v21] k) fun dX =>
 gd dQ true (fun k=>pr (.aE .lss) [cX,dX] k) fun dR =>
 pr (.pick) [dQ,dR,(.bool false)] fun v24 =>
 QB w0 E R x1 v6 v24
theorem aiQ {w0:World}{h:AH}{Q:CR→AH→Prop}(x0 x1:Value) (H:ZL w0 (fun v h=>Q (.aT v) h) (fun v h=>Q (.ret v) h) x0 x1 h):WF PP w0 JU [x0,x1] h Q :=
 eC bT e56 [] (by kernel_rfl) (Eq.mp (by kernel_rfl) H)
def QC (w0:World) (E R:Value→W)  :W :=
 R (vi (-1))
def QD (w0:World) (E R:Value→W) (y3:Value) (k2:Value→W):W :=
 pr (.aE .add) [y3,(vi 1)] fun v4 =>
 k2 v4
def QE (w0:World) (E R:Value→W) (y3:Value) (k2:Value→W) (cX:Value):W :=
 br cX (
 R y3) (
 QD w0 E R y3 k2)
def QF (w0:World) (E R:Value→W) (v1 y3 x1:Value) (k2:Value→W):W :=
 pr (.fieldAddr 6) [v1] fun v5 =>
 pr (.aH) [v5] fun v6 =>
 pr (.bG 3) [v6,y3] fun v7 =>
 pr (.fieldAddr 0) [v7] fun v8 =>
 pr (.aH) [v8] fun v9 =>
 pr (.aE .leq) [v9,x1] fun v10 =>
 gd v10 true (fun k=>k x1) fun v11 =>
 gd v10 true (fun k=>pr (.fieldAddr 6) [v1] k) fun v12 =>
 gd v10 true (fun k=>pr (.aH) [v12] k) fun cm =>
 gd v10 true (fun k=>k y3) fun cN =>
 gd v10 true (fun k=>pr (.bG 3) [cm,cN] k) fun cx =>
 gd v10 true (fun k=>pr (.fieldAddr 1) [cx] k) fun cS =>
 gd v10 true (fun k=>pr (.aH) [cS] k) fun dQ =>
 gd v10 true (fun k=>pr (.aE .lss) [v11,dQ] k) fun c9 =>
 pr (.pick) [v10,c9,(.bool false)] fun cX =>
 QE w0 E R y3 k2 cX
def JV (w0:World) (E R:Value→W) (v1 x1:Value) (k2:Value→W) (y3:Value):W :=
 pr (.fieldAddr 6) [v1] fun v20 =>
 pr (.aH) [v20] fun v21 =>
 pr (.dG) [v21] fun dX =>
 pr (.aE .lss) [y3,dX] fun dR =>
 br dR (
 QF w0 E R v1 y3 x1 k2) (
 QC w0 E R)
def ZM (w0:World) (E R:Value→W) (x0 x1:Value):W :=
 pr (.box 25) [x0] fun v1 =>
 LP (α:=Value) (fun k a=>JV w0 E R v1 x1 k a) ((vi 0))
theorem aiR {w0:World}{h:AH}{Q:CR→AH→Prop}(x0 x1:Value) (H:ZM w0 (fun v h=>Q (.aT v) h) (fun v h=>Q (.ret v) h) x0 x1 h):WF PP w0 JW [x0,x1] h Q :=
 eC bT e59 [[s5]] (by kernel_rfl) (Eq.mp (by kernel_rfl) H)
def ZN (w0:World) (E R:Value→W) (x0:Value):W :=
 pr (.box 67) [x0] fun v1 =>
 pr (.fieldAddr 0) [v1] fun v2 =>
 pr (.aH) [v2] fun v3 =>
 cl PP w0 Bu [v3] E fun v4 =>
 pr (.extract 0) [v4] fun v5 =>
 pr (.extract 1) [v4] fun v6 =>
 pr (.alloc 148 [(vi 0),(vi 0),(vi 0),(vi 0),(vi 0),(vi 0),(.bool false)]) [] fun v7 =>
 pr (.store 7) [v7,v5] fun v8 =>
 pr (.fieldAddr 6) [v7] fun v9 =>
 pr (.aH) [v9] fun v10 =>
 R v10
theorem aiS {w0:World}{h:AH}{Q:CR→AH→Prop}(x0:Value) (H:ZN w0 (fun v h=>Q (.aT v) h) (fun v h=>Q (.ret v) h) x0 h):WF PP w0 JX [x0] h Q :=
 eC bT e43 [] (by kernel_rfl) (Eq.mp (by kernel_rfl) H)
def QG (w0:World) (E R:Value→W) (v6 v2:Value):W :=
 pr (.build [cg,(vi 0)] [(0,1)]) [v6] fun v9 =>
 pr (.store 2) [v2,v9] fun v10 =>
 ld (.bV 2) [v2] fun v11 =>
 R v11
def Bw (w0:World) (E R:Value→W) (aL:Value) (dS:Value→Value→W) (Bx:Value):W :=
 pr (.aE .add) [aL,(vi 1)] fun c9 =>
 dS Bx c9
def QH (w0:World) (E R:Value→W) (v6 v28 aL:Value) (dS:Value→Value→W) (fk:Value):W :=
 pr (.bG 1) [v6,v28] fun fO =>
 pr (.aH) [fO] fun v30 =>
 pr (.aE .lss) [v30,(vi 0)] fun v31 =>
 br v31 (
 pr (.bG 1) [v6,v28] fun l8 =>
 pr (.store 1) [l8,(vi 0)] fun mH =>
 Bw w0 E R aL dS (.bool true)) (
 Bw w0 E R aL dS fk)
def QI (w0:World) (E R:Value→W) (v1 dR v6 v2 aL:Value) (dS:Value→Value→W) (fk:Value):W :=
 pr (.fieldAddr 6) [v1] fun v24 =>
 pr (.aH) [v24] fun gI =>
 pr (.bG 3) [gI,dR] fun fi =>
 pr (.fieldAddr 2) [fi] fun eN =>
 pr (.aH) [eN] fun v28 =>
 pr (.bG 1) [v6,v28] fun jh =>
 pr (.aH) [jh] fun j8 =>
 pr (.aE .gtr) [j8,(vi 0)] fun n3 =>
 br n3 (
 pr (.build [cg,(vi 0)] [(1,1)]) [(vi 12)] fun v37 =>
 pr (.store 2) [v2,v37] fun kQ =>
 ld (.bV 2) [v2] fun cH =>
 R cH) (
 QH w0 E R v6 v28 aL dS fk)
def QJ (w0:World) (E R:Value→W) (aL:Value) (dS:Value→Value→W) (fk v1 dR v6 v2 gq:Value):W :=
 br gq (
 Bw w0 E R aL dS fk) (
 QI w0 E R v1 dR v6 v2 aL dS fk)
def QK (w0:World) (E R:Value→W) (v1 aL:Value) (dS:Value→Value→W) (v6 v2 fk:Value):W :=
 pr (.bV 7) [v1] fun dX =>
 cl PP w0 JW [dX,aL] E fun dR =>
 pr (.fieldAddr 5) [v1] fun v40 =>
 pr (.aH) [v40] fun gn =>
 pr (.bG 4) [gn,aL] fun jy =>
 pr (.bV 4) [jy] fun jq =>
 cl PP w0 JX [jq] E fun nA =>
 pr (.ic) [nA] fun l7 =>
 gd l7 false (fun k=>k dR) fun v46 =>
 gd l7 false (fun k=>pr (.aE .lss) [v46,(vi 0)] k) fun gp =>
 pr (.pick) [l7,(.bool true),gp] fun gq =>
 QJ w0 E R aL dS fk v1 dR v6 v2 gq
def JY (w0:World) (E R:Value→W) (bA:Value) (dA:Value→Value→W) (By:Value):W :=
 pr (.aE .add) [bA,(vi 1)] fun v53 =>
 dA By v53
def QL (w0:World) (E R:Value→W) (v20 bA v6 dC:Value) (dA:Value→Value→W) (bX:Value):W :=
 pr (.bG 1) [v20,bA] fun v70 =>
 pr (.aH) [v70] fun n6 =>
 pr (.bG 1) [v6,n6] fun v72 =>
 pr (.aH) [v72] fun tX =>
 pr (.aE .lss) [tX,(vi 0)] fun qL =>
 br qL (
 pr (.bG 1) [v20,bA] fun v75 =>
 pr (.aH) [v75] fun v76 =>
 pr (.bG 1) [v6,v76] fun sf =>
 pr (.store 1) [sf,dC] fun vT =>
 JY w0 E R bA dA (.bool true)) (
 JY w0 E R bA dA bX)
def QM (w0:World) (E R:Value→W) (v2 v20 bA v6 dC:Value) (dA:Value→Value→W) (bX pQ:Value):W :=
 br pQ (
 pr (.build [cg,(vi 0)] [(1,1)]) [(vi 12)] fun Ei =>
 pr (.store 2) [v2,Ei] fun JE =>
 ld (.bV 2) [v2] fun JF =>
 R JF) (
 QL w0 E R v20 bA v6 dC dA bX)
def QN (w0:World) (E R:Value→W) (dC v6 v20 bA v2:Value) (dA:Value→Value→W) (bX:Value):W :=
 cl PP w0 vZ [dC,(vi 0),(vi 40)] E fun tY =>
 pr (.ic) [tY] fun v80 =>
 gd v80 false (fun k=>k v6) fun gw =>
 gd v80 false (fun k=>k v20) fun sh =>
 gd v80 false (fun k=>k bA) fun tZ =>
 gd v80 false (fun k=>pr (.bG 1) [sh,tZ] k) fun ua =>
 gd v80 false (fun k=>pr (.aH) [ua] k) fun v85 =>
 gd v80 false (fun k=>pr (.bG 1) [gw,v85] k) fun mJ =>
 gd v80 false (fun k=>pr (.aH) [mJ] k) fun v87 =>
 gd v80 false (fun k=>pr (.aE .geq) [v87,(vi 0)] k) fun vU =>
 gd v80 false (fun k=>k vU) fun lP =>
 gd lP true (fun k=>k v6) fun yD =>
 gd lP true (fun k=>k v20) fun v91 =>
 gd lP true (fun k=>k bA) fun ub =>
 gd lP true (fun k=>pr (.bG 1) [v91,ub] k) fun v93 =>
 gd lP true (fun k=>pr (.aH) [v93] k) fun uc =>
 gd lP true (fun k=>pr (.bG 1) [yD,uc] k) fun ud =>
 gd lP true (fun k=>pr (.aH) [ud] k) fun Ef =>
 gd lP true (fun k=>k dC) fun JD =>
 gd lP true (fun k=>pr (.aE .neq) [Ef,JD] k) fun Eg =>
 gd v80 false (fun k=>pr (.pick) [lP,Eg,(.bool false)] k) fun Eh =>
 pr (.pick) [v80,(.bool true),Eh] fun pQ =>
 QM w0 E R v2 v20 bA v6 dC dA bX pQ
def QO (w0:World) (E R:Value→W) (v2 dC v6 v20 bA:Value) (dA:Value→Value→W) (bX pR:Value):W :=
 br pR (
 pr (.build [cg,(vi 0)] [(1,1)]) [(vi 12)] fun v117 =>
 pr (.store 2) [v2,v117] fun JH =>
 ld (.bV 2) [v2] fun JI =>
 R JI) (
 QN w0 E R dC v6 v20 bA v2 dA bX)
def QP (w0:World) (E R:Value→W) (ft aL v2 dC v6 v20 bA:Value) (dA:Value→Value→W) (bX nH:Value):W :=
 gd nH true (fun k=>k ft) fun P4 =>
 gd nH true (fun k=>k aL) fun P5 =>
 gd nH true (fun k=>pr (.aE .add) [P5,(vi 1)] k) fun El =>
 gd nH true (fun k=>pr (.aE .eql) [P4,El] k) fun JG =>
 pr (.pick) [nH,JG,(.bool false)] fun pR =>
 QO w0 E R v2 dC v6 v20 bA dA bX pR
def JZ (w0:World) (E R:Value→W) (er v20 bA ft aL v2 v6:Value) (dA:Value→Value→W) (bX dC:Value):W :=
 pr (.aE .eql) [er,(vi 32)] fun qO =>
 gd qO true (fun k=>k v20) fun v105 =>
 gd qO true (fun k=>k bA) fun Ej =>
 gd qO true (fun k=>pr (.bG 1) [v105,Ej] k) fun v107 =>
 gd qO true (fun k=>pr (.aH) [v107] k) fun Ek =>
 gd qO true (fun k=>k ft) fun v109 =>
 gd qO true (fun k=>pr (.aE .eql) [Ek,v109] k) fun P3 =>
 pr (.pick) [qO,P3,(.bool false)] fun nH =>
 QP w0 E R ft aL v2 dC v6 v20 bA dA bX nH
def QQ (w0:World) (E R:Value→W) (lQ er v20 bA ft aL v2 v6:Value) (dA:Value→Value→W) (bX sr:Value):W :=
 br sr (
 pr (.aE .sub) [lQ,(vi 1)] fun Qa =>
 JZ w0 E R er v20 bA ft aL v2 v6 dA bX Qa) (
 JZ w0 E R er v20 bA ft aL v2 v6 dA bX lQ)
def J0 (w0:World) (E R:Value→W) (v1 aL er v20 bA v2 v6:Value) (dA:Value→Value→W) (bX lQ:Value):W :=
 pr (.fieldAddr 5) [v1] fun yN =>
 pr (.aH) [yN] fun gr =>
 pr (.bG 4) [gr,aL] fun tW =>
 pr (.bV 4) [tW] fun vS =>
 cl PP w0 Eo [vS] E fun sd =>
 pr (.extract 0) [sd] fun ft =>
 pr (.extract 1) [sd] fun lO =>
 pr (.aE .eql) [er,(vi 31)] fun qP =>
 gd qP false (fun k=>k er) fun Em =>
 gd qP false (fun k=>pr (.aE .eql) [Em,(vi 32)] k) fun En =>
 gd qP false (fun k=>k En) fun Br =>
 gd Br true (fun k=>k lO) fun v124 =>
 gd qP false (fun k=>pr (.pick) [Br,v124,(.bool false)] k) fun ZD =>
 gd qP false (fun k=>k ZD) fun uh =>
 gd uh true (fun k=>k v20) fun v127 =>
 gd uh true (fun k=>k bA) fun P6 =>
 gd uh true (fun k=>pr (.bG 1) [v127,P6] k) fun P7 =>
 gd uh true (fun k=>pr (.aH) [P7] k) fun v130 =>
 gd uh true (fun k=>k ft) fun v131 =>
 gd uh true (fun k=>pr (.aE .eql) [v130,v131] k) fun P8 =>
 gd qP false (fun k=>pr (.pick) [uh,P8,(.bool false)] k) fun P9 =>
 pr (.pick) [qP,(.bool true),P9] fun sr =>
 QQ w0 E R lQ er v20 bA ft aL v2 v6 dA bX sr
def QR (w0:World) (E R:Value→W) (v6 aL v1 v20 bA v2:Value) (dA:Value→Value→W) (bX:Value):W :=
 pr (.bG 1) [v6,aL] fun lN =>
 pr (.aH) [lN] fun j9 =>
 pr (.fieldAddr 5) [v1] fun mL =>
 pr (.aH) [mL] fun l9 =>
 pr (.bG 4) [l9,aL] fun kA =>
 pr (.fieldAddr 0) [kA] fun v59 =>
 pr (.aH) [v59] fun er =>
 pr (.aE .eql) [er,(vi 30)] fun ZE =>
 br ZE (
 pr (.aE .add) [j9,(vi 1)] fun Qb =>
 J0 w0 E R v1 aL er v20 bA v2 v6 dA bX Qb) (
 J0 w0 E R v1 aL er v20 bA v2 v6 dA bX j9)
def J2 (w0:World) (E R:Value→W) (v20 v6 aL v1 v2:Value) (dS dA:Value→Value→W) (bX bA:Value):W :=
 pr (.dG) [v20] fun v138 =>
 pr (.aE .lss) [bA,v138] fun v139 =>
 br v139 (
 QR w0 E R v6 aL v1 v20 bA v2 dA bX) (
 QK w0 E R v1 aL dS v6 v2 bX)
def QS (w0:World) (E R:Value→W) (v1 aL v6 v2:Value) (dS:Value→Value→W) (cn:Value):W :=
 pr (.bV 7) [v1] fun cX =>
 cl PP w0 JU [cX,aL] E fun v20 =>
 LP (α:=Value×Value) (fun k a=>J2 w0 E R v20 v6 aL v1 v2 dS (fun b0 b1=>k (b0,b1)) a.1 a.2) (cn,(vi 0))
def QT (w0:World) (E R:Value→W) (v6 aL:Value) (dS:Value→Value→W) (cn v1 v2:Value):W :=
 pr (.bG 1) [v6,aL] fun Qc =>
 pr (.aH) [Qc] fun v141 =>
 pr (.aE .lss) [v141,(vi 0)] fun JJ =>
 br JJ (
 Bw w0 E R aL dS cn) (
 QS w0 E R v1 aL v6 v2 dS cn)
def J3 (w0:World) (E R:Value→W) (v6 v1 v2:Value) (dh:Value→W) (dS:Value→Value→W) (cn aL:Value):W :=
 pr (.dG) [v6] fun v143 =>
 pr (.aE .lss) [aL,v143] fun JK =>
 br JK (
 QT w0 E R v6 aL dS cn v1 v2) (
 dh cn)
def QU (w0:World) (E R:Value→W) (v6 v1 v2:Value) (dh:Value→W):W :=
 LP (α:=Value×Value) (fun k a=>J3 w0 E R v6 v1 v2 dh (fun b0 b1=>k (b0,b1)) a.1 a.2) ((.bool false),(vi 0))
def J4 (w0:World) (E R:Value→W) (v6 v1 v2:Value) (dh:Value→W) (bK:Value):W :=
 br bK (
 QU w0 E R v6 v1 v2 dh) (
 QG w0 E R v6 v2)
def QV (w0:World) (E R:Value→W) (v6 v1 v2:Value):W :=
 pr (.bG 1) [v6,(vi 0)] fun v7 =>
 pr (.store 1) [v7,(vi 0)] fun v8 =>
 LP (α:=Value) (fun k a=>J4 w0 E R v6 v1 v2 k a) ((.bool true))
def QW (w0:World) (E R:Value→W) (fx:Value) (n9:Value→W):W :=
 pr (.aE .add) [fx,(vi 1)] fun JM =>
 n9 JM
def QX (w0:World) (E R:Value→W) (v6 fx:Value) (n9:Value→W):W :=
 pr (.bG 1) [v6,fx] fun v148 =>
 pr (.store 1) [v148,(vi (-1))] fun ZF =>
 QW w0 E R fx n9
def J5 (w0:World) (E R:Value→W) (v6 v1 v2:Value) (n9:Value→W) (fx:Value):W :=
 pr (.dG) [v6] fun JN =>
 pr (.aE .lss) [fx,JN] fun Qd =>
 br Qd (
 QX w0 E R v6 fx n9) (
 QV w0 E R v6 v1 v2)
def QY (w0:World) (E R:Value→W) (v1 v2:Value):W :=
 pr (.fieldAddr 5) [v1] fun v3 =>
 pr (.aH) [v3] fun v4 =>
 pr (.dG) [v4] fun v5 =>
 pr (.mkSlice 3 1 [(vi 0)]) [v5,v5] fun v6 =>
 LP (α:=Value) (fun k a=>J5 w0 E R v6 v1 v2 k a) ((vi 0))
def ZO (w0:World) (E R:Value→W) (x0:Value):W :=
 pr (.box 25) [x0] fun v1 =>
 pr (.alloc 33 [cg,(vi 0)]) [] fun v2 =>
 pr (.bV 7) [v1] fun v152 =>
 cl PP w0 JQ [v152] E fun aiT =>
 pr (.ic) [aiT] fun v154 =>
 br v154 (
 pr (.build [cg,(vi 0)] [(1,1)]) [(vi 1)] fun aiU =>
 pr (.store 2) [v2,aiU] fun awb =>
 ld (.bV 2) [v2] fun v157 =>
 R v157) (
 QY w0 E R v1 v2)
theorem aiV {w0:World}{h:AH}{Q:CR→AH→Prop}(x0:Value) (H:ZO w0 (fun v h=>Q (.aT v) h) (fun v h=>Q (.ret v) h) x0 h):WF PP w0 QZ [x0] h Q :=
 eC bT e15 [[s4],[s5],[s5,s6],[s5,s8]] (by kernel_rfl) (Eq.mp (by kernel_rfl) H)
def Q0 (w0:World) (E R:Value→W) (v1:Value):W :=
 pr (.fieldAddr 3) [v1] fun v2 =>
 pr (.aH) [v2] fun v3 =>
 R v3
def Q1 (w0:World) (E R:Value→W) (x1 v1:Value):W :=
 pr (.aE .eql) [x1,(vi 2)] fun v4 =>
 br v4 (
 pr (.fieldAddr 2) [v1] fun v5 =>
 pr (.aH) [v5] fun v6 =>
 R v6) (
 Q0 w0 E R v1)
def ZP (w0:World) (E R:Value→W) (x0 x1:Value):W :=
 pr (.box 67) [x0] fun v1 =>
 pr (.aE .eql) [x1,(vi 1)] fun v7 =>
 br v7 (
 pr (.fieldAddr 1) [v1] fun v8 =>
 pr (.aH) [v8] fun v9 =>
 R v9) (
 Q1 w0 E R x1 v1)
theorem aiW {w0:World}{h:AH}{Q:CR→AH→Prop}(x0 x1:Value) (H:ZP w0 (fun v h=>Q (.aT v) h) (fun v h=>Q (.ret v) h) x0 x1 h):WF PP w0 Ep [x0,x1] h Q :=
 eC bT e89 [] (by kernel_rfl) (Eq.mp (by kernel_rfl) H)
def Q2 (w0:World) (E R:Value→W) (y9:Value):W :=
 R y9
def J6 (w0:World) (E R:Value→W) (ew:Value) (jz:Value→Value→W) (bK:Value):W :=
 pr (.aE .add) [ew,(vi 1)] fun cN =>
 jz bK cN
def Q3 (w0:World) (E R:Value→W) (v1 v7 ew ep:Value) (jz:Value→Value→W) (fi:Value):W :=
 br fi (
 pr (.bV 4) [v1] fun eN =>
 pr (.fieldAddr 4) [v7] fun v28 =>
 pr (.Bz 2 1) [v28,ew] fun fO =>
 pr (.aH) [fO] fun v30 =>
 cl PP w0 Ep [eN,v30] E fun v31 =>
 ck (.move) [ep] ep (
 pr (.buildSlice 3 1 [(vi 0)] [(0,1)]) [v31] fun l8 =>
 pr (.append 3 1 [(vi 0)]) [ep,l8] fun mH =>
 J6 w0 E R ew jz mH)) (
 J6 w0 E R ew jz ep)
def Q4 (w0:World) (E R:Value→W) (v7 ew v1 ep:Value) (jz:Value→Value→W):W :=
 pr (.fieldAddr 4) [v7] fun cx =>
 pr (.Bz 2 1) [cx,ew] fun cS =>
 pr (.aH) [cS] fun dQ =>
 pr (.aE .gtr) [dQ,(vi 0)] fun c9 =>
 gd c9 true (fun k=>pr (.bV 4) [v1] k) fun cX =>
 gd c9 true (fun k=>k ew) fun v20 =>
 gd c9 true (fun k=>pr (.fieldAddr 4) [v7] k) fun v21 =>
 gd c9 true (fun k=>pr (.Bz 2 1) [v21,v20] k) fun dX =>
 gd c9 true (fun k=>pr (.aH) [dX] k) fun dR =>
 gd c9 true (fun k=>cl PP w0 Ep [cX,dR] E k) fun v24 =>
 gd c9 true (fun k=>pr (.aE .neq) [v24,(vi (-1))] k) fun gI =>
 pr (.pick) [c9,gI,(.bool false)] fun fi =>
 Q3 w0 E R v1 v7 ew ep jz fi
def J7 (w0:World) (E R:Value→W) (v7 v1:Value) (jz:Value→Value→W) (ep ew:Value):W :=
 pr (.aE .lss) [ew,(vi 2)] fun jh =>
 br jh (
 Q4 w0 E R v7 ew v1 ep jz) (
 Q2 w0 E R  ep)
def ZQ (w0:World) (E R:Value→W) (x0:Value):W :=
 pr (.box 67) [x0] fun v1 =>
 pr (.fieldAddr 0) [v1] fun v2 =>
 pr (.aH) [v2] fun v3 =>
 cl PP w0 Bu [v3] E fun v4 =>
 pr (.extract 0) [v4] fun v5 =>
 pr (.extract 1) [v4] fun v6 =>
 pr (.alloc 148 [(vi 0),(vi 0),(vi 0),(vi 0),(vi 0),(vi 0),(.bool false)]) [] fun v7 =>
 pr (.store 7) [v7,v5] fun v8 =>
 LP (α:=Value×Value) (fun k a=>J7 w0 E R v7 v1 (fun b0 b1=>k (b0,b1)) a.1 a.2) (cg,(vi 0))
theorem aiX {w0:World}{h:AH}{Q:CR→AH→Prop}(x0:Value) (H:ZQ w0 (fun v h=>Q (.aT v) h) (fun v h=>Q (.ret v) h) x0 h):WF PP w0 Q5 [x0] h Q :=
 eC bT e31 [[s5,s6]] (by kernel_rfl) (Eq.mp (by kernel_rfl) H)
def Q6 (w0:World) (E R:Value→W) (v1 v7:Value):W :=
 pr (.bV 4) [v1] fun v9 =>
 pr (.fieldAddr 3) [v7] fun v10 =>
 pr (.aH) [v10] fun v11 =>
 cl PP w0 Ep [v9,v11] E fun v12 =>
 R v12
def ZR (w0:World) (E R:Value→W) (x0:Value):W :=
 pr (.box 67) [x0] fun v1 =>
 pr (.fieldAddr 0) [v1] fun v2 =>
 pr (.aH) [v2] fun v3 =>
 cl PP w0 Bu [v3] E fun v4 =>
 pr (.extract 0) [v4] fun v5 =>
 pr (.extract 1) [v4] fun v6 =>
 pr (.alloc 148 [(vi 0),(vi 0),(vi 0),(vi 0),(vi 0),(vi 0),(.bool false)]) [] fun v7 =>
 pr (.store 7) [v7,v5] fun v8 =>
 pr (.fieldAddr 3) [v7] fun cm =>
 pr (.aH) [cm] fun cN =>
 pr (.aE .eql) [cN,(vi 0)] fun cx =>
 br cx (
 R (vi (-1))) (
 Q6 w0 E R v1 v7)
theorem aiY {w0:World}{h:AH}{Q:CR→AH→Prop}(x0:Value) (H:ZR w0 (fun v h=>Q (.aT v) h) (fun v h=>Q (.ret v) h) x0 h):WF PP w0 Q7 [x0] h Q :=
 eC bT e39 [] (by kernel_rfl) (Eq.mp (by kernel_rfl) H)
def Q8 (w0:World) (E R:Value→W) (v2:Value):W :=
 R v2
def Q9 (w0:World) (E R:Value→W) (y4:Value) (k3:Value→W):W :=
 pr (.aE .add) [y4,(vi 1)] fun v5 =>
 k3 v5
def Ra (w0:World) (E R:Value→W) (y7:Value) (k6:Value→W):W :=
 pr (.aE .sub) [y7,(vi 1)] fun v8 =>
 k6 v8
def Rb (w0:World) (E R:Value→W) (y7 v2:Value) (k6:Value→W):W :=
 pr (.aE .sub) [y7,(vi 1)] fun v9 =>
 pr (.aE .sub) [y7,(vi 1)] fun v10 =>
 pr (.bG 1) [v2,v10] fun v11 =>
 pr (.aH) [v11] fun v12 =>
 pr (.bG 1) [v2,y7] fun cm =>
 pr (.aH) [cm] fun cN =>
 pr (.bG 1) [v2,y7] fun cx =>
 pr (.store 1) [cx,v12] fun cS =>
 ck (.aE .sub) [y7,(vi 1)] v9 (
 ck (.move) [y7] y7 (
 ck (.move) [v2] v2 (
 pr (.bG 1) [v2,v9] fun dQ =>
 pr (.store 1) [dQ,cN] fun c9 =>
 Ra w0 E R y7 k6)))
def Re (w0:World) (E R:Value→W) (y7 v2:Value) (k6:Value→W) (y4:Value) (k3:Value→W) (v30:Value):W :=
 br v30 (
 Rb w0 E R y7 v2 k6) (
 Q9 w0 E R y4 k3)
def J8 (w0:World) (E R:Value→W) (v2 y4:Value) (k3 k6:Value→W) (y7:Value):W :=
 pr (.aE .gtr) [y7,(vi 0)] fun cX =>
 gd cX true (fun k=>k v2) fun v20 =>
 gd cX true (fun k=>k y7) fun v21 =>
 gd cX true (fun k=>pr (.bG 1) [v20,v21] k) fun dX =>
 gd cX true (fun k=>pr (.aH) [dX] k) fun dR =>
 gd cX true (fun k=>k v2) fun v24 =>
 gd cX true (fun k=>k y7) fun gI =>
 gd cX true (fun k=>pr (.aE .sub) [gI,(vi 1)] k) fun fi =>
 gd cX true (fun k=>pr (.bG 1) [v24,fi] k) fun eN =>
 gd cX true (fun k=>pr (.aH) [eN] k) fun v28 =>
 gd cX true (fun k=>pr (.aE .lss) [dR,v28] k) fun fO =>
 pr (.pick) [cX,fO,(.bool false)] fun v30 =>
 Re w0 E R y7 v2 k6 y4 k3 v30
def Rf (w0:World) (E R:Value→W) (v2 y4:Value) (k3:Value→W):W :=
 LP (α:=Value) (fun k a=>J8 w0 E R v2 y4 k3 k a) (y4)
def J9 (w0:World) (E R:Value→W) (v2:Value) (k3:Value→W) (y4:Value):W :=
 pr (.dG) [v2] fun v31 =>
 pr (.aE .lss) [y4,v31] fun l8 =>
 br l8 (
 Rf w0 E R v2 y4 k3) (
 Q8 w0 E R v2)
def ZS (w0:World) (E R:Value→W) (x0:Value):W :=
 pr (.buildSlice 3 0 [] []) [] fun v1 =>
 pr (.append 3 1 [(vi 0)]) [v1,x0] fun v2 =>
 LP (α:=Value) (fun k a=>J9 w0 E R v2 k a) ((vi 1))
theorem aiZ {w0:World}{h:AH}{Q:CR→AH→Prop}(x0:Value) (H:ZS w0 (fun v h=>Q (.aT v) h) (fun v h=>Q (.ret v) h) x0 h):WF PP w0 Rg [x0] h Q :=
 eC bT e64 [[s4],[s5]] (by kernel_rfl) (Eq.mp (by kernel_rfl) H)
def Rh (w0:World) (E R:Value→W) (v5:Value):W :=
 R v5
def Ri (w0:World) (E R:Value→W) (y7:Value) (k6:Value→W):W :=
 pr (.aE .add) [y7,(vi 1)] fun v8 =>
 k6 v8
def Rj (w0:World) (E R:Value→W) (v5 y7:Value) (k6:Value→W):W :=
 pr (.bG 1) [v5,y7] fun v9 =>
 pr (.aH) [v9] fun v10 =>
 cl PP w0 Rg [v10] E fun v11 =>
 pr (.bG 1) [v5,y7] fun v12 =>
 pr (.store 1) [v12,v11] fun cm =>
 Ri w0 E R y7 k6
def Ka (w0:World) (E R:Value→W) (v4 v5:Value) (k6:Value→W) (y7:Value):W :=
 pr (.aE .lss) [y7,v4] fun cN =>
 br cN (
 Rj w0 E R v5 y7 k6) (
 Rh w0 E R v5)
def Rk (w0:World) (E R:Value→W) (v4 v5:Value):W :=
 LP (α:=Value) (fun k a=>Ka w0 E R v4 v5 k a) ((vi 0))
def Kb (w0:World) (E R:Value→W) (aZ:Value) (da:Value→Value→W) (fk:Value):W :=
 pr (.aE .sub) [aZ,(vi 1)] fun dX =>
 da fk dX
def Kc (w0:World) (E R:Value→W) (v5 aZ:Value) (da:Value→Value→W) (bU su:Value):W :=
 pr (.dG) [su] fun nA =>
 pr (.bG 1) [v5,aZ] fun l7 =>
 pr (.aH) [l7] fun v46 =>
 pr (.dG) [v46] fun gp =>
 pr (.aE .neq) [nA,gp] fun gq =>
 br gq (
 pr (.bG 1) [v5,aZ] fun v49 =>
 pr (.store 1) [v49,su] fun n4 =>
 Kb w0 E R aZ da (.bool true)) (
 Kb w0 E R aZ da bU)
def Rl (w0:World) (E R:Value→W) (gW:Value) (oa:Value→Value→W) (BA:Value):W :=
 pr (.aE .add) [gW,(vi 1)] fun lO =>
 oa BA lO
def Rm (w0:World) (E R:Value→W) (v5 gr gW kb:Value) (oa:Value→Value→W):W :=
 pr (.bG 1) [v5,gr] fun yC =>
 pr (.aH) [yC] fun v70 =>
 pr (.bG 1) [v70,gW] fun n6 =>
 pr (.aH) [n6] fun v72 =>
 cl PP w0 Bv [kb,v72] E fun tX =>
 Rl w0 E R gW oa tX
def Kd (w0:World) (E R:Value→W) (v5 gr aZ:Value) (da:Value→Value→W) (bU:Value) (oa:Value→Value→W) (kb gW:Value):W :=
 pr (.bG 1) [v5,gr] fun qL =>
 pr (.aH) [qL] fun v75 =>
 pr (.dG) [v75] fun v76 =>
 pr (.aE .lss) [gW,v76] fun sf =>
 br sf (
 Rm w0 E R v5 gr gW kb oa) (
 Kc w0 E R v5 aZ da bU kb)
def Rn (w0:World) (E R:Value→W) (v1 jy v5 aZ:Value) (da:Value→Value→W) (bU dk kA:Value):W :=
 br kA (
 pr (.fieldAddr 6) [v1] fun v59 =>
 pr (.aH) [v59] fun er =>
 pr (.bG 3) [er,jy] fun n7 =>
 pr (.fieldAddr 2) [n7] fun yN =>
 pr (.aH) [yN] fun gr =>
 LP (α:=Value×Value) (fun k a=>Kd w0 E R v5 gr aZ da bU (fun b0 b1=>k (b0,b1)) a.1 a.2) (dk,(vi 0))) (
 Kc w0 E R v5 aZ da bU dk)
def Ro (w0:World) (E R:Value→W) (v1 aZ v5:Value) (da:Value→Value→W) (bU dk:Value):W :=
 pr (.bV 7) [v1] fun gn =>
 cl PP w0 JW [gn,aZ] E fun jy =>
 pr (.fieldAddr 5) [v1] fun v51 =>
 pr (.aH) [v51] fun kz =>
 pr (.bG 4) [kz,aZ] fun v53 =>
 pr (.bV 4) [v53] fun lN =>
 cl PP w0 JX [lN] E fun j9 =>
 gd j9 true (fun k=>k jy) fun mL =>
 gd j9 true (fun k=>pr (.aE .geq) [mL,(vi 0)] k) fun l9 =>
 pr (.pick) [j9,l9,(.bool false)] fun kA =>
 Rn w0 E R v1 jy v5 aZ da bU dk kA
def Rp (w0:World) (E R:Value→W) (dD:Value) (ke:Value→Value→W) (BB:Value):W :=
 pr (.aE .add) [dD,(vi 1)] fun sh =>
 ke BB sh
def Ke (w0:World) (E R:Value→W) (fP:Value) (nI:Value→Value→W) (BC:Value):W :=
 pr (.aE .add) [fP,(vi 1)] fun v87 =>
 nI BC v87
def Rq (w0:World) (E R:Value→W) (cH dD v5 fP v37 jC:Value) (nI:Value→Value→W):W :=
 pr (.bG 1) [cH,dD] fun vU =>
 pr (.aH) [vU] fun lP =>
 pr (.bG 1) [v5,lP] fun yD =>
 pr (.aH) [yD] fun v91 =>
 pr (.bG 1) [v91,fP] fun ub =>
 pr (.aH) [ub] fun v93 =>
 pr (.aE .neq) [v93,v37] fun uc =>
 br uc (
 pr (.bG 1) [cH,dD] fun ud =>
 pr (.aH) [ud] fun Ef =>
 pr (.bG 1) [v5,Ef] fun JD =>
 pr (.aH) [JD] fun Eg =>
 pr (.bG 1) [Eg,fP] fun Eh =>
 pr (.aH) [Eh] fun pQ =>
 cl PP w0 Bv [jC,pQ] E fun Ei =>
 Ke w0 E R fP nI Ei) (
 Ke w0 E R fP nI jC)
def Kf (w0:World) (E R:Value→W) (cH dD v5 v37:Value) (ke nI:Value→Value→W) (jC fP:Value):W :=
 pr (.bG 1) [cH,dD] fun JE =>
 pr (.aH) [JE] fun JF =>
 pr (.bG 1) [v5,JF] fun qO =>
 pr (.aH) [qO] fun v105 =>
 pr (.dG) [v105] fun Ej =>
 pr (.aE .lss) [fP,Ej] fun v107 =>
 br v107 (
 Rq w0 E R cH dD v5 fP v37 jC nI) (
 Rp w0 E R dD ke jC)
def Rr (w0:World) (E R:Value→W) (cH dD v5 v37:Value) (ke:Value→Value→W) (ki:Value):W :=
 LP (α:=Value×Value) (fun k a=>Kf w0 E R cH dD v5 v37 ke (fun b0 b1=>k (b0,b1)) a.1 a.2) (ki,(vi 0))
def Kg (w0:World) (E R:Value→W) (cH v5 v37 v1 aZ:Value) (da:Value→Value→W) (bU:Value) (ke:Value→Value→W) (ki dD:Value):W :=
 pr (.dG) [cH] fun Ek =>
 pr (.aE .lss) [dD,Ek] fun v109 =>
 br v109 (
 Rr w0 E R cH dD v5 v37 ke ki) (
 Ro w0 E R v1 aZ v5 da bU ki)
def Rs (w0:World) (E R:Value→W) (v1 aZ v5:Value) (da:Value→Value→W) (bU o4:Value):W :=
 pr (.fieldAddr 5) [v1] fun mH =>
 pr (.aH) [mH] fun jh =>
 pr (.bG 4) [jh,aZ] fun j8 =>
 pr (.bV 4) [j8] fun n3 =>
 cl PP w0 Q7 [n3] E fun v37 =>
 pr (.bV 7) [v1] fun kQ =>
 cl PP w0 JU [kQ,aZ] E fun cH =>
 LP (α:=Value×Value) (fun k a=>Kg w0 E R cH v5 v37 v1 aZ da bU (fun b0 b1=>k (b0,b1)) a.1 a.2) (o4,(vi 0))
def Ru (w0:World) (E R:Value→W) (gX:Value) (oc:Value→Value→W) (BD:Value):W :=
 pr (.aE .add) [gX,(vi 1)] fun El =>
 oc BD El
def Rv (w0:World) (E R:Value→W) (v31 gX kj:Value) (oc:Value→Value→W):W :=
 pr (.bG 1) [v31,gX] fun JG =>
 pr (.aH) [JG] fun pR =>
 cl PP w0 Bv [kj,pR] E fun v117 =>
 Ru w0 E R gX oc v117
def Kh (w0:World) (E R:Value→W) (v31 v1 aZ v5:Value) (da:Value→Value→W) (bU:Value) (oc:Value→Value→W) (kj gX:Value):W :=
 pr (.dG) [v31] fun JH =>
 pr (.aE .lss) [gX,JH] fun JI =>
 br JI (
 Rv w0 E R v31 gX kj oc) (
 Rs w0 E R v1 aZ v5 da bU kj)
def Rw (w0:World) (E R:Value→W) (v5 aZ v1:Value) (da:Value→Value→W) (bU:Value):W :=
 pr (.buildSlice 3 0 [] []) [] fun dR =>
 pr (.bG 1) [v5,aZ] fun v24 =>
 pr (.aH) [v24] fun gI =>
 pr (.append 3 1 [(vi 0)]) [dR,gI] fun fi =>
 pr (.fieldAddr 5) [v1] fun eN =>
 pr (.aH) [eN] fun v28 =>
 pr (.bG 4) [v28,aZ] fun fO =>
 pr (.bV 4) [fO] fun v30 =>
 cl PP w0 Q5 [v30] E fun v31 =>
 LP (α:=Value×Value) (fun k a=>Kh w0 E R v31 v1 aZ v5 da bU (fun b0 b1=>k (b0,b1)) a.1 a.2) (fi,(vi 0))
def Ki (w0:World) (E R:Value→W) (v5 v1:Value) (fj:Value→W) (da:Value→Value→W) (bU aZ:Value):W :=
 pr (.aE .geq) [aZ,(vi 0)] fun qP =>
 br qP (
 Rw w0 E R v5 aZ v1 da bU) (
 fj bU)
def Rx (w0:World) (E R:Value→W) (v4 v5 v1:Value) (fj:Value→W):W :=
 pr (.aE .sub) [v4,(vi 1)] fun dQ =>
 LP (α:=Value×Value) (fun k a=>Ki w0 E R v5 v1 fj (fun b0 b1=>k (b0,b1)) a.1 a.2) ((.bool false),dQ)
def Kj (w0:World) (E R:Value→W) (v4 v5 v1:Value) (fj:Value→W) (aL:Value):W :=
 br aL (
 Rx w0 E R v4 v5 v1 fj) (
 Rk w0 E R v4 v5)
def Ry (w0:World) (E R:Value→W) (v1:Value):W :=
 pr (.fieldAddr 5) [v1] fun v2 =>
 pr (.aH) [v2] fun v3 =>
 pr (.dG) [v3] fun v4 =>
 pr (.mkSlice 28 1 [cg]) [v4,v4] fun v5 =>
 LP (α:=Value) (fun k a=>Kj w0 E R v4 v5 v1 k a) ((.bool true))
def ZT (w0:World) (E R:Value→W) (x0:Value):W :=
 pr (.box 25) [x0] fun v1 =>
 pr (.bV 7) [v1] fun Em =>
 cl PP w0 JQ [Em] E fun En =>
 pr (.ic) [En] fun Br =>
 br Br (
 R cg) (
 Ry w0 E R v1)
theorem ai0 {w0:World}{h:AH}{Q:CR→AH→Prop}(x0:Value) (H:ZT w0 (fun v h=>Q (.aT v) h) (fun v h=>Q (.ret v) h) x0 h):WF PP w0 Rz [x0] h Q :=
 eC bT e19 [[s5],[s5,s6],[s7,s9],[s7,yP],[s7,yQ],[s7,tV],[yR]] (by kernel_rfl) (Eq.mp (by kernel_rfl) H)
def RA (w0:World) (E R:Value→W) (v6 v9 v21:Value):W :=
 gd v21 true (fun k=>k v6) fun dX =>
 gd v21 true (fun k=>pr (.fieldAddr 1) [v9] k) fun dR =>
 gd v21 true (fun k=>pr (.aH) [dR] k) fun v24 =>
 gd v21 true (fun k=>pr (.aE .eql) [dX,v24] k) fun gI =>
 pr (.pick) [v21,gI,(.bool false)] fun fi =>
 R fi
def RB (w0:World) (E R:Value→W) (v2 v6 v9 cX:Value):W :=
 gd v2 true (fun k=>k cX) fun v20 =>
 pr (.pick) [v2,v20,(.bool false)] fun v21 =>
 RA w0 E R v6 v9 v21
def RC (w0:World) (E R:Value→W) (v1 v2:Value):W :=
 pr (.bV 7) [v1] fun v3 =>
 cl PP w0 Po [v3] E fun v4 =>
 pr (.extract 0) [v4] fun v5 =>
 pr (.extract 1) [v4] fun v6 =>
 pr (.bV 7) [v1] fun v7 =>
 cl PP w0 QZ [v7] E fun v8 =>
 pr (.alloc 33 [cg,(vi 0)]) [] fun v9 =>
 pr (.store 2) [v9,v8] fun v10 =>
 pr (.fieldAddr 0) [v9] fun v11 =>
 pr (.aH) [v11] fun v12 =>
 cl PP w0 Js [v5,v12] E fun cm =>
 gd cm true (fun k=>pr (.bV 7) [v1] k) fun cN =>
 gd cm true (fun k=>pr (.bV 7) [v1] k) fun cx =>
 gd cm true (fun k=>cl PP w0 PS [cN] E k) fun cS =>
 gk cm true (fun k=>ck (.bV 7) [v1] cx k) (
 gd cm true (fun k=>cl PP w0 Rz [cx] E k) fun dQ =>
 gd cm true (fun k=>cl PP w0 PZ [cS,dQ] E k) fun c9 =>
 pr (.pick) [cm,c9,(.bool false)] fun cX =>
 RB w0 E R v2 v6 v9 cX)
def ZU (w0:World) (E R:Value→W) (x0:Value):W :=
 pr (.box 25) [x0] fun v1 =>
 cl PP w0 RD [] E fun v2 =>
 pr (.bV 7) [v1] fun eN =>
 cl PP w0 P1 [eN] E fun v28 =>
 pr (.ic) [v28] fun fO =>
 br fO (
 R v2) (
 RC w0 E R v1 v2)
theorem ai1 {w0:World}{h:AH}{Q:CR→AH→Prop}(x0:Value) (H:ZU w0 (fun v h=>Q (.aT v) h) (fun v h=>Q (.ret v) h) x0 h):WF PP w0 ZV [x0] h Q :=
 eC bT e3 [] (by kernel_rfl) (Eq.mp (by kernel_rfl) H)
end
end Go.Ve.T
namespace Go.Ve
open Go.RowKit
open Classical
noncomputable section
structure Sub (g h:AH):Prop where
 nx:g.nx≤h.nx
 get:∀f x,g.ob.get f=some x→h.ob.get f=some x
theorem Sub.refl (g:AH):Sub g g:=⟨Nat.le_refl _,fun _ _ h=>h⟩
theorem Sub.trans {a b c:AH}(h1:Sub a b) (h2:Sub b c):Sub a c:=⟨Nat.le_trans h1.nx h2.nx,fun f x h=>h2.get f x (h1.get f x h)⟩
theorem Sub.rd {g h:AH}(S:Sub g h){b o:Nat}{v:Value}(hr:g.rd b o=some v):h.rd b o=some v:=by
 unfold AH.rd at hr ⊢
 cases hg:g.ob.get b with
 | none=>rw [hg]at hr;cases hr
 | some x=>rw [S.get b x hg];rw [hg]at hr;exact hr
theorem Sub.bE {g h:AH}(S:Sub g h){b o:Nat}{l:List Value}(hr:g.bE b o l):h.bE b o l:=fun i v hv=>S.rd (hr i v hv)
def ah {α β:Type}(R:α→β→Prop) (l:List α) (m:List β):Prop:=l.length=m.length∧∀(i:Nat) x y,l[i]? =some x→m[i]? =some y→R x y
section
variable {α β:Type}{R R':α→β→Prop}{l l2:List α}{m m2:List β}
theorem ah.nil:ah R [] []:=⟨rfl,fun i x y h=>by simp at h⟩
theorem ah.mono (H:ah R l m) (hm:∀x y,R x y→R' x y):ah R' l m:=⟨H.1,fun i x y h1 h2=>hm x y (H.2 i x y h1 h2)⟩
theorem ah.get (H:ah R l m){i:Nat}{y:β}(hy:m[i]? =some y):∃x,l[i]? =some x∧R x y:=by
 have hi:i<m.length:=(List.getElem?_eq_some_iff.1 hy).1
 have hl:i<l.length:=by rw [H.1];exact hi
 exact⟨l[i],List.getElem?_eq_getElem hl,H.2 i _ _ (List.getElem?_eq_getElem hl) hy⟩
theorem ah.append (H:ah R l m) (H2:ah R l2 m2):ah R (l++l2) (m++m2):=by
 refine⟨by simp [H.1,H2.1],fun i x y hx hy=> ?_⟩
 by_cases hi:i<l.length
 · rw [List.getElem?_append_left hi]at hx
   rw [List.getElem?_append_left (by rw [←H.1];exact hi)]at hy
   exact H.2 i x y hx hy
 · rw [List.getElem?_append_right (by omega)]at hx
   rw [List.getElem?_append_right (by rw [←H.1];omega),←H.1]at hy
   exact H2.2 _ x y hx hy
theorem ah.one {x:α}{y:β}(h:R x y):ah R [x] [y]:=⟨rfl,fun i a b ha hb=>by
 cases i with
 | zero=>simp at ha hb;subst ha;subst hb;exact h
 | succ i=>simp at ha⟩
theorem ah.push {x:α}{y:β}(H:ah R l m) (h:R x y):ah R (l++[x]) (m++[y]):=H.append (.one h)
theorem ah.set {x:α}{y:β}(H:ah R l m) (h:R x y) (i:Nat):ah R (l.set i x) (m.set i y):=by
 refine⟨by simp [H.1],fun j a b ha hb=> ?_⟩
 rw [List.getElem?_set]at ha hb
 by_cases e:i=j
 · subst e
   rw [if_pos rfl]at ha hb
   split at ha
   · cases ha
     split at hb
     · cases hb;exact h
     · cases hb
   · cases ha
 · rw [if_neg e]at ha hb;exact H.2 j a b ha hb
theorem ah.take (H:ah R l m) (n:Nat):ah R (l.take n) (m.take n):=⟨by simp [H.1],fun i x y hx hy=>by
 rw [List.getElem?_take]at hx hy
 split at hx
 · rename_i hi;rw [if_pos hi]at hy;exact H.2 i x y hx hy
 · cases hx⟩
theorem ah.drop (H:ah R l m) (n:Nat):ah R (l.drop n) (m.drop n):=⟨by simp [H.1],fun i x y hx hy=>by
 rw [List.getElem?_drop]at hx hy;exact H.2 _ x y hx hy⟩
theorem ah.MU {x:α}{y:β}(h:R x y):∀n,ah R (List.replicate n x) (List.replicate n y)
 | 0=>.nil
 | n+1=>⟨by simp,fun i a b ha hb=>by
  have h1:=List.mem_of_getElem? ha
  have h2:=List.mem_of_getElem? hb
  rw [(List.mem_replicate.1 h1).2,(List.mem_replicate.1 h2).2];exact h⟩
end
def ix {α:Type}(l:List α):Int→Option α
 | .ofNat n=>l[n]?
 | .negSucc _=>none
theorem iB {α:Type}(l:List α) (n:Nat):ix l (n:Int)=l[n]? :=rfl
theorem CO {α:Type}{l:List α}{n:Int}{x:α}(h:ix l n=some x):∃i:Nat,n=i∧i<l.length∧l[i]? =some x:=by
 cases n with
 | ofNat i=>exact⟨i,rfl,(List.getElem?_eq_some_iff.1 h).1,h⟩
 | negSucc i=>cases h
theorem bind_some {α β:Type}{o:Option α}{f:α→Option β}{r:β}(h:o.bind f=some r):∃x,o=some x∧f x=some r:=by
 cases o with
 | none=>cases h
 | some x=>exact⟨x,rfl,h⟩
theorem aQ {α:Type}{c:Bool}{a b r:α}(hc:c=true) (h:(bif c then a else b)=r):a=r:=by subst hc;exact h
theorem aS {α:Type}{c:Bool}{a b r:α}(hc:c=false) (h:(bif c then a else b)=r):b=r:=by subst hc;exact h
def gu {α:Type}(c:Bool) (k:Option α):Option α:=bif c then k else none
theorem mo {α:Type}{c:Bool}{k:Option α}{r:α}(h:gu c k=some r):c=true∧k=some r:=by
 cases c with
 | false=>cases h
 | true=>exact⟨rfl,h⟩
abbrev iO (α:Type):=AH→List Value→α→Prop
def vj {α:Type}(rep:iO α):Prop:=∀g g' vs x,Sub g g'→rep g vs x→rep g' vs x
def Vy (sz n cap:Nat):Prop:=n<bg∧((n≤cap∧cap<bg)∨cap=bg+sz)
inductive jd (g:AH) (sz:Nat):Value→List (List Value)→Prop where
 | nil:jd g sz cg []
 | mk (b o n cap:Nat) (ls:List (List Value)) (hn:n=ls.length) (hc:Vy sz n cap) (hs:∀x∈ls,x.length=sz) (hr:g.bE b o ls.flatten):jd g sz (eR b o n cap) ls
theorem jd.mono {g g':AH}{sz:Nat}{v:Value}{ls:List (List Value)}(S:Sub g g') (H:jd g sz v ls):jd g' sz v ls:=by
 cases H with
 | nil=>exact .nil
 | mk b o n cap ls hn hc hs hr=>exact .mk b o n cap ls hn hc hs (S.bE hr)
def ab {α:Type}(rep:iO α) (sz:Nat) (g:AH) (v:Value) (l:List α):Prop:=∃ls,jd g sz v ls∧ah (rep g) ls l
theorem ab.mono {α:Type}{rep:iO α}{sz:Nat}{g g':AH}{v:Value}{l:List α}(H:ab rep sz g v l) (hm:vj rep) (S:Sub g g'):ab rep sz g' v l:=by
 obtain⟨ls,h1,h2⟩:=H
 exact⟨ls,h1.mono S,h2.mono fun x y h=>hm _ _ _ _ S h⟩
theorem ab.nil {α:Type}{rep:iO α}{sz:Nat}{g:AH}:ab rep sz g cg []:=⟨[],.nil,.nil⟩
theorem jd.one {g:AH}{sz:Nat}{v:Value}{ls:List (List Value)}(H:jd g sz v ls):fR v=true:=by cases H<;>rfl
theorem ab.one {α:Type}{rep:iO α}{sz:Nat}{g:AH}{v:Value}{l:List α}(H:ab rep sz g v l):fR v=true:=by obtain⟨ls,h1,_⟩:=H;exact h1.one
def rI (k:IntKind):iO Int:=fun _ vs x=>vs=[.int k x]
def rS:iO ByteArray:=fun _ vs x=>vs=[.string x]
def rL {α:Type}(rep:iO α) (sz:Nat):iO (List α):=fun g vs x=>∃v,vs=[v]∧ab rep sz g v x
theorem du (k:IntKind):vj (rI k):=fun _ _ _ _ _ h=>h
theorem pE {α:Type}{rep:iO α}{sz:Nat}(hm:vj rep):vj (rL rep sz):=fun _ _ _ _ S ⟨v,h1,h2⟩=>⟨v,h1,h2.mono hm S⟩
theorem rv {sz:Nat}:∀{l:List (List Value)},(∀x∈l,x.length=sz)→l.flatten.length=l.length*sz
 | [],_=>by simp
 | x::l,hs=>by
  rw [List.flatten_cons,List.length_append,hs x List.mem_cons_self,rv fun y hy=>hs y (List.mem_cons_of_mem _ hy),List.length_cons,Nat.add_mul];omega
theorem Vz {sz:Nat}:∀{l:List (List Value)}(n:Nat),(∀x∈l,x.length=sz)→(l.drop n).flatten=l.flatten.drop (n*sz)
 | [],n,_=>by simp
 | x::l,0,_=>by simp
 | x::l,n+1,hs=>by
  rw [List.drop_succ_cons,List.flatten_cons,Vz n fun y hy=>hs y (List.mem_cons_of_mem _ hy),List.drop_append,List.drop_of_length_le (l:=x) (by rw [hs x List.mem_cons_self,Nat.add_mul];omega),List.nil_append,hs x List.mem_cons_self]
  congr 1
  rw [Nat.add_mul];omega
theorem VA {sz:Nat}:∀{l:List (List Value)}(n:Nat),(∀x∈l,x.length=sz)→(l.take n).flatten=l.flatten.take (n*sz)
 | [],n,_=>by simp
 | x::l,0,_=>by simp
 | x::l,n+1,hs=>by
  rw [List.take_succ_cons,List.flatten_cons,List.flatten_cons,VA n fun y hy=>hs y (List.mem_cons_of_mem _ hy),List.take_append,hs x List.mem_cons_self,List.take_of_length_le (show x.length≤(n+1)*sz by rw [hs x List.mem_cons_self,Nat.add_mul];omega)]
  congr 2
  rw [Nat.add_mul];omega
theorem aec {sz:Nat}:∀{l:List (List Value)}{i:Nat}{y:List Value},(∀x∈l,x.length=sz)→y.length=sz→i<l.length→∀j,(l.set i y).flatten[j]? =if i*sz≤j∧j<i*sz+sz then y[j-i*sz]? else l.flatten[j]?
 | [],i,y,_,_,h,j=>by simp at h
 | x::l,0,y,hs,hy,_,j=>by
  have hx:=hs x List.mem_cons_self
  rw [List.set_cons_zero,List.flatten_cons,List.flatten_cons,Nat.zero_mul,Nat.zero_add]
  by_cases hj:j<sz
  · rw [if_pos ⟨Nat.zero_le _,hj⟩,List.getElem?_append_left (by omega)];rfl
  · rw [if_neg (fun h=>hj h.2),List.getElem?_append_right (by omega),List.getElem?_append_right (by omega),hx,hy]
 | x::l,i+1,y,hs,hy,hi,j=>by
  have hx:=hs x List.mem_cons_self
  rw [List.set_cons_succ,List.flatten_cons,List.flatten_cons]
  have e:(i+1)*sz=i*sz+sz:=by rw [Nat.add_mul];omega
  by_cases hj:j<sz
  · rw [List.getElem?_append_left (by omega),if_neg (by omega),List.getElem?_append_left (by omega)]
  · rw [List.getElem?_append_right (by omega),List.getElem?_append_right (by omega),aec (fun z hz=>hs z (List.mem_cons_of_mem _ hz)) hy (by simpa using hi),hx,e]
    by_cases h2:i*sz≤j-sz∧j-sz<i*sz+sz
    · rw [if_pos h2,if_pos (by omega)];congr 1;omega
    · rw [if_neg h2,if_neg (by omega)]
theorem VB {h:AH}{b o:Nat}{l:List Value}(n:Nat) (H:h.bE b o l):h.bE b o (l.take n):=fun i v hv=>H i v (by
 rw [List.getElem?_take]at hv;split at hv
 · exact hv
 · cases hv)
theorem VC {h:AH}{b o:Nat}{l:List Value}(n:Nat) (H:h.bE b o l):h.bE b (o+n) (l.drop n):=fun i v hv=>by
 rw [List.getElem?_drop]at hv
 have:=H (n+i) v hv
 rwa [show o+n+i=o+(n+i) by omega]
inductive eZ (h:AH) (ty:TypeId) (sz:Nat):Value→List (List Value)→Prop where
 | nil:eZ h ty sz cg []
 | un (b o n lo hi:Nat) (c:NT Value) (ls:List (List Value)) (hn:n=ls.length) (hb:n<bg) (hg:h.ob.get b=some (.cells lo hi ty true c)) (h1:lo≤o) (h2:o+n*sz≤hi) (hr:h.bE b o ls.flatten) (hs:∀x∈ls,x.length=sz):eZ h ty sz (eR b o n (bg+sz)) ls
 | kn (b o n cap lo hi:Nat) (cJ:TypeId) (c:NT Value) (ls:List (List Value)) (hn:n=ls.length) (hb:n≤cap) (hc:cap<bg) (hg:h.ob.get b=some (.cells lo hi cJ true c)) (h1:lo≤o) (h2:o+cap*sz≤hi) (hr:h.bE b o ls.flatten) (hs:∀x∈ls,x.length=sz):eZ h ty sz (eR b o n cap) ls
def fa:Value→List Nat
 | .slice (some a) _ _=>[a.block]
 | _=>[]
theorem eZ.one {h:AH}{ty:TypeId}{sz:Nat}{v:Value}{ls:List (List Value)}(H:eZ h ty sz v ls):fR v=true:=by cases H<;>rfl
theorem eZ.read {h:AH}{ty:TypeId}{sz:Nat}{v:Value}{ls:List (List Value)}(H:eZ h ty sz v ls):jd h sz v ls:=by
 cases H with
 | nil=>exact .nil
 | un b o n lo hi c ls hn hb hg h1 h2 hr hs=>exact .mk b o n _ ls hn ⟨hb,.inr rfl⟩ hs hr
 | kn b o n cap lo hi cJ c ls hn hb hc hg h1 h2 hr hs=>exact .mk b o n cap ls hn ⟨by omega,.inl ⟨hb,hc⟩⟩ hs hr
theorem zV {h h':AH}{b o:Nat}{l:List Value}(e:h'.ob.get b=h.ob.get b) (H:h.bE b o l):h'.bE b o l:=fun i v hv=>by
 have:=H i v hv
 unfold AH.rd at this ⊢
 rw [e];exact this
theorem eZ.CP {h h':AH}{ty:TypeId}{sz:Nat}{v:Value}{ls:List (List Value)}(H:eZ h ty sz v ls) (e:∀b∈fa v,h'.ob.get b=h.ob.get b):eZ h' ty sz v ls:=by
 cases H with
 | nil=>exact .nil
 | un b o n lo hi c ls hn hb hg h1 h2 hr hs =>
  have e:=e b (by simp [fa])
  exact .un b o n lo hi c ls hn hb (e.trans hg) h1 h2 (zV e hr) hs
 | kn b o n cap lo hi cJ c ls hn hb hc hg h1 h2 hr hs =>
  have e:=e b (by simp [fa])
  exact .kn b o n cap lo hi cJ c ls hn hb hc (e.trans hg) h1 h2 (zV e hr) hs
inductive Ob where
 | bx (b:Nat) (l:List Value)
 | sl (ty:TypeId) (sz:Nat) (v:Value) (ls:List (List Value))
 | lp (n:Nat) (lo:LO) (st:LoopState) (pd:Option Code)
 | ds (d:List Nat)
 | mp (b:Nat) (es:List (Value×Value×Nat)) (cl:Nat)
 | raw (b:Nat) (a:AO)
def Ob.bN:Ob→List Nat
 | .bx b _=>[b]
 | .sl _ _ v _=>fa v
 | .lp n _ _ _=>[n]
 | .ds d=>d
 | .mp b _ _=>[b]
 | .raw b _=>[b]
def Ob.ok (h:AH):Ob→Prop
 | .bx b l=>h.bE b 0 l∧h.can b 0 l.length
 | .sl ty sz v ls=>eZ h ty sz v ls
 | .lp n lo st pd=>h.ob.get n=some (lo st pd)
 | .ds d=>∀r∈d,h.ob.get r=some (.defs false)
 | .mp b es cl=>h.ob.get b=some (.map es cl)
 | .raw b a=>h.ob.get b=some a
theorem aoh {h h':AH}{b o n:Nat}(e:h'.ob.get b=h.ob.get b) (H:h.can b o n):h'.can b o n:=by
 obtain⟨lo,hi,ty,c,h1,h2,h3⟩:=H
 exact⟨lo,hi,ty,c,e.trans h1,h2,h3⟩
theorem Ob.CP {h h':AH}{o:Ob}(H:o.ok h) (e:∀b∈o.bN,h'.ob.get b=h.ob.get b):o.ok h':=by
 cases o with
 | bx b l =>
  have e:=e b (by simp [Ob.bN])
  exact⟨zV e H.1,aoh e H.2⟩
 | sl ty sz v ls=>exact eZ.CP H e
 | lp n lo st pd=>exact(e n (by simp [Ob.bN])).trans H
 | ds d=>exact fun r hr=>(e r hr).trans (H r hr)
 | mp b es cl=>exact(e b (by simp [Ob.bN])).trans H
 | raw b a=>exact(e b (by simp [Ob.bN])).trans H
structure Cx where
 g:AH
 h:AH
 C:List Nat
structure Sep (c:Cx) (g h:AH) (Γ:List Ob):Prop where
 bF:Sub c.g g
 sub:Sub g h
 ok:h.Ok
 nx:c.h.nx≤h.nx
 old:∀f,f<c.h.nx→f∉c.C→h.ob.get f=c.h.ob.get f∧(c.g.ob.get f=none→g.ob.get f=none)
 eG:∀o∈Γ,o.ok h
 nd:(Γ.flatMap Ob.bN).Nodup
 own:∀b∈Γ.flatMap Ob.bN,b<h.nx∧g.ob.get b=none∧(c.h.nx≤b∨b∈c.C)
section
variable {c:Cx}{g h h' g':AH}{Γ Γ':List Ob}{o:Ob}
theorem Sep.start (S:Sub g h) (ok:h.Ok):Sep ⟨g,h,[]⟩ g h []:=⟨.refl _,S,ok,Nat.le_refl _,fun f _ _=>⟨rfl,id⟩,fun o ho=>by simp at ho,by simp,fun b hb=>by simp at hb⟩
theorem Sep.perm (S:Sep c g h Γ) (p:Γ'.Perm Γ):Sep c g h Γ' :=
 have pf:(Γ'.flatMap Ob.bN).Perm (Γ.flatMap Ob.bN):=p.flatMap_right _
 ⟨S.bF,S.sub,S.ok,S.nx,S.old,fun o ho=>S.eG o (p.mem_iff.1 ho),pf.nodup_iff.2 S.nd,fun b hb=>S.own b (pf.mem_iff.1 hb)⟩
theorem aed {α:Type}:∀{l:List α}{i:Nat}{x:α},l[i]? =some x→(x::l.eraseIdx i).Perm l
 | [],i,x,h=>by simp at h
 | y::l,0,x,h=>by simp at h;subst h;exact .refl _
 | y::l,i+1,x,h=>by
  have:=aed (l:=l) (i:=i) (x:=x) (by simpa using h)
  exact(List.Perm.swap y x _).trans (this.cons y)
theorem Sep.front (S:Sep c g h Γ) (i:Nat) (hi:Γ[i]? =some o) (e:Γ.eraseIdx i=Γ'):Sep c g h (o::Γ'):=e▸S.perm (aed hi)
theorem Sep.drop (S:Sep c g h (o::Γ)):Sep c g h Γ :=
 ⟨S.bF,S.sub,S.ok,S.nx,S.old,fun x hx=>S.eG x (List.mem_cons_of_mem _ hx),by have:=S.nd;rw [List.flatMap_cons]at this;exact(List.nodup_append.1 this).2.1,fun b hb=>S.own b (by rw [List.flatMap_cons];exact List.mem_append_right _ hb)⟩
theorem Sep.bH (S:Sep c g h Γ):Sep c g h [] :=
 ⟨S.bF,S.sub,S.ok,S.nx,S.old,fun x hx=>by simp at hx,by simp,fun b hb=>by simp at hb⟩
theorem Sep.apart (S:Sep c g h (o::Γ)){b:Nat}(hb:b∈o.bN):b∉Γ.flatMap Ob.bN:=fun cG=>by
 have:=S.nd
 rw [List.flatMap_cons]at this
 exact(List.nodup_append.1 this).2.2 b hb b cG rfl
theorem Sep.change (S:Sep c g h (o::Γ)) (o':Ob) (qx:h'.Ok) (sK:h.nx≤h'.nx) (dq:∀f,f<h.nx→f∉o.bN→h'.ob.get f=h.ob.get f) (ho:o'.ok h') (pF:o'.bN.Nodup)
 (hb:∀b∈o'.bN,b<h'.nx∧(h.nx≤b∨b∈o.bN)):Sep c g h' (o'::Γ):=by
 have own:=fun b hb=>S.own b (show b∈(o::Γ).flatMap Ob.bN from hb)
 have VD:∀b∈o.bN,b<h.nx∧g.ob.get b=none∧(c.h.nx≤b∨b∈c.C):=fun b hb=>own b (by rw [List.flatMap_cons];exact List.mem_append_left _ hb)
 have aoi:∀f,h.nx≤f→g.ob.get f=none:=fun f hf=>by
  cases hg:g.ob.get f with
  | none=>rfl
  | some x=>have:=S.sub.get f x hg;rw [S.ok f hf]at this;cases this
 refine⟨S.bF,⟨Nat.le_trans S.sub.nx sK,fun f x hx=> ?_⟩,qx,Nat.le_trans S.nx sK,fun f hf hc=> ?_,fun x hx=> ?_, ?_,fun b cG=> ?_⟩
 · have h1:=S.sub.get f x hx
   have bJ:f<h.nx:=AH.lt_of_get S.ok h1
   rw [dq f bJ (fun hm=>by rw [(VD f hm).2.1]at hx;cases hx)];exact h1
 · obtain⟨h1,h2⟩:=S.old f hf hc
   refine⟨?_,h2⟩
   rw [dq f (Nat.lt_of_lt_of_le hf S.nx) (fun hm=>by exact(VD f hm).2.2.elim (fun h3=>by omega) hc)];exact h1
 · rcases List.mem_cons.1 hx with rfl | hx
   · exact ho
   · refine Ob.CP (S.eG x (List.mem_cons_of_mem _ hx)) fun b kr=> ?_
     have hm:b∈Γ.flatMap Ob.bN:=List.mem_flatMap.2 ⟨x,hx,kr⟩
     have bJ:=(own b (by rw [List.flatMap_cons];exact List.mem_append_right _ hm)).1
     exact dq b bJ fun zi=>S.apart zi hm
 · rw [List.flatMap_cons]
   refine List.nodup_append.2 ⟨pF,S.drop.nd,fun a ha b kr e=> ?_⟩
   subst e
   rcases(hb a ha).2 with h1 | h1
   · have:=(S.drop.own a kr).1;omega
   · exact S.apart h1 kr
 · rw [List.flatMap_cons]at cG
   rcases List.mem_append.1 cG with h1 | h1
   · obtain⟨h2,h3⟩:=hb b h1
     refine⟨h2, ?_⟩
     rcases h3 with h3 | h3
     · exact⟨aoi b h3,.inl (Nat.le_trans S.nx h3)⟩
     · exact(VD b h3).2
   · obtain⟨h2,h3⟩:=S.drop.own b h1
     exact⟨by omega,h3⟩
theorem Sep.add (S:Sep c g h Γ) (o':Ob) (qx:h'.Ok) (sK:h.nx≤h'.nx) (dq:∀f,f<h.nx→h'.ob.get f=h.ob.get f) (ho:o'.ok h') (pF:o'.bN.Nodup) (hb:∀b∈o'.bN,b<h'.nx∧h.nx≤b):Sep c g h' (o'::Γ):=by
 have S0:Sep c g h (.sl 0 0 cg []::Γ):=⟨S.bF,S.sub,S.ok,S.nx,S.old,fun x hx=>by
  rcases List.mem_cons.1 hx with rfl | hx
  · exact eZ.nil
  · exact S.eG x hx,by rw [List.flatMap_cons];exact S.nd,fun b hb=>S.own b (by rw [List.flatMap_cons]at hb;exact hb)⟩
 exact S0.change o' qx sK (fun f hf _=>dq f hf) ho pF fun b cG=>⟨(hb b cG).1,.inl (hb b cG).2⟩
theorem Sep.zW (S:Sep c g h Γ) (ty:TypeId) (sz:Nat):Sep c g h (.sl ty sz cg []::Γ):=S.add _ S.ok (Nat.le_refl _) (fun _ _=>rfl) eZ.nil (by simp [Ob.bN,fa]) (fun b hb=>by simp [Ob.bN,fa]at hb)
theorem Sep.dq (S:Sep c g h Γ) (K:dT h h') (qx:h'.Ok):Sep c g h' Γ :=
 (Sep.add S (.sl 0 0 cg []) qx K.nx K.get eZ.nil (by simp [Ob.bN,fa]) (fun b hb=>by simp [Ob.bN,fa]at hb)).drop
theorem Sep.call {Γ1:List Ob}(S:Sep c g h Γ) (S':Sep ⟨g,h,[]⟩ g' h' Γ1):Sep c g' h' (Γ1++Γ):=by
 have aee:∀b∈Γ1.flatMap Ob.bN,b<h'.nx∧g'.ob.get b=none∧h.nx≤b:=fun b hb=>by
  obtain⟨h1,h2,h3⟩:=S'.own b hb
  refine⟨h1,h2, ?_⟩
  rcases h3 with h3 | h3
  · exact h3
  · simp at h3
 have VE:∀f,f<h.nx→h'.ob.get f=h.ob.get f∧(g.ob.get f=none→g'.ob.get f=none):=fun f hf=>S'.old f hf (by simp)
 refine⟨S.bF.trans S'.bF,S'.sub,S'.ok,Nat.le_trans S.nx S'.nx,fun f hf hc=> ?_,fun x hx=> ?_, ?_,fun b hb=> ?_⟩
 · obtain⟨h1,h2⟩:=S.old f hf hc
   obtain⟨h3,h4⟩:=VE f (Nat.lt_of_lt_of_le hf S.nx)
   exact⟨h3.trans h1,fun hn=>h4 (h2 hn)⟩
 · rcases List.mem_append.1 hx with hx | hx
   · exact S'.eG x hx
   · refine Ob.CP (S.eG x hx) fun b hb=> ?_
     exact(VE b (S.own b (List.mem_flatMap.2 ⟨x,hx,hb⟩)).1).1
 · rw [List.flatMap_append]
   refine List.nodup_append.2 ⟨S'.nd,S.nd,fun a ha b hb e=> ?_⟩
   subst e
   have:=(aee a ha).2.2
   have:=(S.own a hb).1
   omega
 · rw [List.flatMap_append]at hb
   rcases List.mem_append.1 hb with hb | hb
   · obtain⟨h1,h2,h3⟩:=aee b hb
     exact⟨h1,h2,.inl (Nat.le_trans S.nx h3)⟩
   · obtain⟨h1,h2,h3⟩:=S.own b hb
     exact⟨Nat.lt_of_lt_of_le h1 S'.nx,(VE b h1).2 h2,h3⟩
theorem Sep.MV (S:Sep c g h (o::Γ)):Sep ⟨g,h,o.bN⟩ g h [o]:=by
 refine⟨.refl _,S.sub,S.ok,Nat.le_refl _,fun f _ _=>⟨rfl,id⟩,fun x hx=>S.eG x (by rcases List.mem_cons.1 hx with rfl | hx<;>simp_all), ?_,fun b hb=> ?_⟩
 · have:=S.nd
   rw [List.flatMap_cons]at this
   simpa using (List.nodup_append.1 this).1
 · have cG:b∈o.bN:=by simpa using hb
   obtain⟨h1,h2,_⟩:=S.own b (by rw [List.flatMap_cons];exact List.mem_append_left _ cG)
   exact⟨h1,h2,.inr cG⟩
theorem Sep.aoj {Γ1:List Ob}(S:Sep c g h (o::Γ)) (S':Sep ⟨g,h,o.bN⟩ g' h' Γ1):Sep c g' h' (Γ1++Γ):=by
 have aef:∀b∈o.bN,b<h.nx∧g.ob.get b=none∧(c.h.nx≤b∨b∈c.C):=fun b hb=>S.own b (by rw [List.flatMap_cons];exact List.mem_append_left _ hb)
 have EL:∀b∈Γ.flatMap Ob.bN,b<h.nx∧g.ob.get b=none∧(c.h.nx≤b∨b∈c.C):=fun b hb=>S.own b (by rw [List.flatMap_cons];exact List.mem_append_right _ hb)
 refine⟨S.bF.trans S'.bF,S'.sub,S'.ok,Nat.le_trans S.nx S'.nx,fun f hf hc=> ?_,fun x hx=> ?_, ?_,fun b hb=> ?_⟩
 · obtain⟨h1,h2⟩:=S.old f hf hc
   have uR:f∉o.bN:=fun hm=>by rcases(aef f hm).2.2 with h3 | h3<;>first | omega | exact hc h3
   obtain⟨h3,h4⟩:=S'.old f (Nat.lt_of_lt_of_le hf S.nx) uR
   exact⟨h3.trans h1,fun hn=>h4 (h2 hn)⟩
 · rcases List.mem_append.1 hx with hx | hx
   · exact S'.eG x hx
   · refine Ob.CP (S.eG x (List.mem_cons_of_mem _ hx)) fun b hb=> ?_
     have hm:b∈Γ.flatMap Ob.bN:=List.mem_flatMap.2 ⟨x,hx,hb⟩
     exact(S'.old b (EL b hm).1 fun h2=>S.apart h2 hm).1
 · rw [List.flatMap_append]
   refine List.nodup_append.2 ⟨S'.nd,S.drop.nd,fun a ha b hb e=> ?_⟩
   subst e
   rcases(S'.own a ha).2.2 with h1 | h1
   · have jr:h.nx≤a:=h1
     have:=(EL a hb).1;omega
   · exact S.apart h1 hb
 · rw [List.flatMap_append]at hb
   rcases List.mem_append.1 hb with hb | hb
   · obtain⟨h1,h2,h3⟩:=S'.own b hb
     refine⟨h1,h2, ?_⟩
     rcases h3 with h3 | h3
     · exact .inl (Nat.le_trans S.nx h3)
     · exact(aef b h3).2.2
   · obtain⟨h1,h2,h3⟩:=EL b hb
     exact⟨Nat.lt_of_lt_of_le h1 S'.nx,(S'.old b h1 fun h4=>S.apart h4 hb).2 h2,h3⟩
def AH.Gv (g h:AH) (b:Nat):AH:=⟨h.nx,g.ob.set b (h.ob.get b)⟩
theorem AH.Gw (g h:AH) (b f:Nat):(g.Gv h b).ob.get f=if f=b then h.ob.get b else g.ob.get f:=by
 show(g.ob.set b _).get f=_
 rw [NT.eK]
theorem Sep.freeze (S:Sep c g h (o::Γ)){b:Nat}(hb:o.bN=[b]):Sub g (g.Gv h b)∧Sep c (g.Gv h b) h Γ∧(g.Gv h b).ob.get b=h.ob.get b:=by
 have MW:b∈o.bN:=by rw [hb];simp
 obtain⟨h1,h2,h3⟩:=S.own b (by rw [List.flatMap_cons];exact List.mem_append_left _ MW)
 have sg:Sub g (g.Gv h b):=⟨S.sub.nx,fun f x hx=>by
  rw [AH.Gw]
  split
  · rename_i e;subst e;rw [h2]at hx;cases hx
  · exact hx⟩
 refine⟨sg,⟨S.bF.trans sg,⟨Nat.le_refl _,fun f x hx=> ?_⟩,S.ok,S.nx,fun f hf hc=> ?_,S.drop.eG,S.drop.nd,fun b' cG=> ?_⟩,by rw [AH.Gw,if_pos rfl]⟩
 · rw [AH.Gw]at hx
   split at hx
   · rename_i e;subst e;exact hx
   · exact S.sub.get f x hx
 · obtain⟨h4,h5⟩:=S.old f hf hc
   refine⟨h4,fun hn=> ?_⟩
   rw [AH.Gw,if_neg]
   · exact h5 hn
   · rintro rfl
     rcases h3 with h3 | h3
     · omega
     · exact hc h3
 · obtain⟨h4,h5,h6⟩:=S.drop.own b' cG
   refine⟨h4, ?_,h6⟩
   rw [AH.Gw,if_neg]
   · exact h5
   · rintro rfl;exact S.apart MW cG
theorem Sep.th {b:Nat}{l:List Value}(S:Sep c g h (.bx b l::Γ)):∃g',Sub g g'∧Sep c g' h Γ∧g'.bE b 0 l:=by
 obtain⟨h1,h2,h3⟩:=S.freeze (b:=b) rfl
 exact⟨_,h1,h2,zV h3 (S.eG _ List.mem_cons_self).1⟩
theorem Sep.aok {ty:TypeId}{sz:Nat}{v:Value}{ls:List (List Value)}(S:Sep c g h (.sl ty sz v ls::Γ)):∃g',Sub g g'∧Sep c g' h Γ∧jd g' sz v ls:=by
 have H:eZ h ty sz v ls:=S.eG _ List.mem_cons_self
 have R:=H.read
 cases R with
 | nil=>exact⟨g,.refl _,S.drop,.nil⟩
 | mk b o n cap ls hn hc hs hr =>
  obtain⟨h1,h2,h3⟩:=S.freeze (b:=b) rfl
  exact⟨_,h1,h2,.mk b o n cap ls hn hc hs (zV h3 hr)⟩
theorem Sep.fz {α:Type}{rep:iO α}{ty:TypeId}{sz:Nat}{v:Value}{ls:List (List Value)}{l:List α}(S:Sep c g h (.sl ty sz v ls::Γ)) (A:ah (rep g) ls l) (hm:vj rep):∃g',Sub g g'∧Sep c g' h Γ∧ab rep sz g' v l:=by
 obtain⟨g',h1,h2,h3⟩:=S.aok
 exact⟨g',h1,h2,ls,h3,A.mono fun x y Vl=>hm _ _ _ _ h1 Vl⟩
theorem Sep.back (S:Sep c g h Γ) (S':Sep c g' h' Γ') (hs:Sub g g'):Sep c g h' Γ' :=
 ⟨S.bF,hs.trans S'.sub,S'.ok,S'.nx,fun f hf hc=>⟨(S'.old f hf hc).1,fun hn=>(S.old f hf hc).2 hn⟩,S'.eG,S'.nd,fun b hb=>by
  obtain⟨h1,h2,h3⟩:=S'.own b hb
  refine⟨h1, ?_,h3⟩
  cases hg:g.ob.get b with
  | none=>rfl
  | some x=>rw [hs.get b x hg]at h2;cases h2⟩
end
end
end Go.Ve
namespace Go.Ve
open Go.RowKit
open Classical
noncomputable section
theorem bw {c:Bool}{A B:W}{h:AH}(ht:c=true→A h) (hf:c=false→B h):br (.bool c) A B h:=by
 cases c with
 | true=>exact ht rfl
 | false=>exact hf rfl
theorem ax {c want:Bool}{A:(Value→W)→W}{K:Value→W}{h:AH}(e:c=want) (H:A K h):gd (.bool c) want A K h:=by
 subst e;unfold gd;cases c<;>exact H
theorem aA {c want:Bool}{A:(Value→W)→W}{K:Value→W}{h:AH}(e:c≠want) (H:K undef h):gd (.bool c) want A K h:=by
 unfold gd;cases c<;>cases want<;>first | exact absurd rfl e | exact H
section
variable {c:Cx}{g h:AH}{Γ:List Ob}{R:Value→AH→Prop}
theorem Sep.eH {b o:Nat}{v:Value}(S:Sep c g h Γ) (hr:g.rd b o=some v) (K:R v h):WP .aH [au b o] h R:=(LW (S.sub.rd hr)).2 K
theorem Sep.mq {b o n:Nat}{l:List Value}(S:Sep c g h Γ) (hr:g.bE b o l) (hn:l.length=n) (h0:0<n) (K:R (.agg ⟨l⟩) h):WP (.bV n) [au b o] h R:=(LX (S.sub.bE hr) hn h0).2 K
theorem aes {ty:TypeId}{l:List Value}:Ob.ok (h.new ty l) (.bx h.nx l):=⟨AH.LM h ty l,AH.Ua h ty l (by omega)⟩
theorem Sep.alloc {ty:TypeId}{l:List Value}(S:Sep c g h Γ) (ha:dP l=true) (K:∀b h',Sep c g h' (.bx b l::Γ)→R (au b 0) h'):WP (.alloc ty l) [] h R :=
 (FR ha).2 (K _ _ (S.add _ (AH.uU S.ok _ _) (Nat.le_succ _) (dT.new h ty l).get aes (by simp [Ob.bN]) (fun b hb=>by simp [Ob.bN]at hb;subst hb;exact⟨Nat.lt_succ_self _,Nat.le_refl _⟩)))
theorem Sep.box {ty:TypeId}{v:Value}(l:List Value) (S:Sep c g h Γ) (hl:cellsOf v=l) (ha:dP l=true) (K:∀b h',Sep c g h' (.bx b l::Γ)→R (au b 0) h'):WP (.box ty) [v] h R:=by
 subst hl
 exact(LV ha).2 (K _ _ (S.add _ (AH.uU S.ok _ _) (Nat.le_succ _) (dT.new h ty _).get aes (by simp [Ob.bN]) (fun b hb=>by simp [Ob.bN]at hb;subst hb;exact⟨Nat.lt_succ_self _,Nat.le_refl _⟩)))
theorem Sep.bz {b o:Nat}{l:List Value}{v:Value}(S:Sep c g h Γ) (i:Nat) (hi:Γ[i]? =some (.bx b l)) (hv:l[o]? =some v) (K:R v h):WP .aH [au b o] h R:=by
 have:=(S.eG _ (List.mem_of_getElem? hi)).1 o v hv
 rw [Nat.zero_add]at this
 exact(LW this).2 K
theorem Sep.dc {b o n:Nat}{l:List Value}(m:List Value) (S:Sep c g h Γ) (i:Nat) (hi:Γ[i]? =some (.bx b l)) (hm:(l.drop o).take n=m) (hn:m.length=n) (h0:0<n) (K:R (.agg ⟨m⟩) h):WP (.bV n) [au b o] h R:=by
 have:=VB n (VC o (S.eG _ (List.mem_of_getElem? hi)).1)
 rw [Nat.zero_add,hm]at this
 exact(LX this hn h0).2 K
theorem aet {l m:List Value}{o j:Nat}(hl:o+m.length≤l.length):(mj l o m)[j]? =if o≤j∧j<o+m.length then m[j-o]? else l[j]? :=by
 unfold mj
 by_cases h1:j<o
 · rw [if_neg (by omega),List.append_assoc,List.getElem?_append_left (by rw [List.length_take];omega),List.getElem?_take,if_pos h1]
 · rw [List.append_assoc,List.getElem?_append_right (by rw [List.length_take];omega),List.length_take,Nat.min_eq_left (by omega)]
   by_cases h2:j<o+m.length
   · rw [if_pos (by omega),List.getElem?_append_left (by omega)]
   · rw [if_neg (by omega),List.getElem?_append_right (by omega),List.getElem?_drop];congr 1;omega
theorem VK {l m:List Value}{o:Nat}(hl:o+m.length≤l.length):(mj l o m).length=l.length:=by unfold mj;simp;omega
theorem Sep.dv {b o n:Nat}{l:List Value}{v:Value}(m l':List Value) (S:Sep c g h (.bx b l::Γ)) (hm:cellsOf v=m) (hn:m.length=n) (ha:dP m=true) (ho:o+n≤l.length) (iM:mj l o m=l') (K:∀h',Sep c g h' (.bx b l'::Γ)→R undef h'):WP (.store n) [au b o,v] h R:=by
 subst hm;subst iM;subst hn
 have H:Ob.ok h (.bx b l):=S.eG _ List.mem_cons_self
 obtain⟨h1,lo,hi,ty,cc,h2,h3,h4⟩:=H
 have hc:h.can b o (cellsOf v).length:=⟨lo,hi,ty,cc,h2,by omega,by omega⟩
 refine(LY hc rfl ha).2 (K _ ?_)
 have bJ:=AH.lt_of_get S.ok h2
 refine S.change _ (AH.uV S.ok _ _ _) (by rw [AH.nb];exact Nat.le_refl _) (fun f _ hf=>AH.wS h (by simp [Ob.bN]at hf;exact hf)) ⟨fun i u hu=> ?_, ?_⟩ (by simp [Ob.bN]) (fun b' cG=>by simp [Ob.bN]at cG;subst cG;exact⟨by rw [AH.nb];exact bJ,.inr (by simp [Ob.bN])⟩)
 · rw [aet ho]at hu
   rw [Nat.zero_add,AH.wT hc (Nat.le_refl _)]
   split at hu
   · rename_i hh;rw [if_pos ⟨rfl,hh⟩];exact hu
   · rename_i hh;rw [if_neg (fun e=>hh e.2)];have:=h1 i u hu;rwa [Nat.zero_add]at this
 · rw [VK ho];exact AH.LK ⟨lo,hi,ty,cc,h2,h3,h4⟩
def rA (v:Value) (sz i b o:Nat):Prop:=∃o0 n cap,v=eR b o0 n cap∧o=o0+i*sz
theorem jd.len {h2:AH}{sz:Nat}{v:Value}{ls:List (List Value)}(H:jd h2 sz v ls) (K:R (vi (ls.length:Int)) h):WP .dG [v] h R:=by
 cases H with
 | nil=>exact amD.2 K
 | mk b o n cap ls hn hc hs hr=>subst hn;exact Ul.2 K
theorem jd.idx {h2:AH}{sz:Nat}{v:Value}{ls:List (List Value)}(H:jd h2 sz v ls){i:Nat}{x:List Value}(hx:ls[i]? =some x) :
 ∃b o,rA v sz i b o∧h2.bE b o x∧∀(kd:IntKind) (h:AH) (R:Value→AH→Prop),R (au b o) h→WP (.bG sz) [v,.int kd (i:Int)] h R:=by
 have hi:i<ls.length:=(List.getElem?_eq_some_iff.1 hx).1
 cases H with
 | nil=>simp at hi
 | mk b o n cap ls hn hc hs hr =>
  subst hn
  refine⟨b,o+i*sz,⟨o,_,cap,rfl,rfl⟩,fun j u hu=> ?_,fun kd h R K=>(amz hi).2 K⟩
  have:=hr (i*sz+j) u (U4 hs hx j u hu)
  rwa [show o+(i*sz+j)=o+i*sz+j by omega]at this
theorem ab.len {α:Type}{rep:iO α}{g2:AH}{sz:Nat}{v:Value}{l:List α}(F:ab rep sz g2 v l) (K:R (vi (l.length:Int)) h):WP .dG [v] h R:=by
 obtain⟨ls,h1,h2⟩:=F
 exact h1.len (by rw [h2.1];exact K)
theorem ab.idx {α:Type}{rep:iO α}{sz:Nat}{v:Value}{l:List α}{n:Int}{x:α}{kd:IntKind}(F:ab rep sz g v l) (hx:ix l n=some x) (K:∀b o vs,rA v sz n.toNat b o→g.bE b o vs→rep g vs x→R (au b o) h):WP (.bG sz) [v,.int kd n] h R:=by
 obtain⟨i,rfl,hi,hx⟩:=CO hx
 obtain⟨ls,h1,h2⟩:=F
 obtain⟨cs,h3,h4⟩:=h2.get hx
 obtain⟨b,o,h7,h5,h6⟩:=h1.idx h3
 exact h6 kd h R (K b o cs h7 h5 h4)
theorem rA.same {v:Value}{sz i b o b' o':Nat}(h1:rA v sz i b o) (h2:rA v sz i b' o'):b=b'∧o=o':=by
 obtain⟨o0,n,cap,e1,e2⟩:=h1
 obtain⟨o1,n1,aws,e3,e4⟩:=h2
 rw [e1]at e3;cases e3
 exact⟨rfl,e2.trans e4.symm⟩
theorem aou {b o:Nat}:rf (au b o) (au b o)=true:=by
 show(Nat.beq b b&&Nat.beq o o)=true
 rw [Nat.beq_refl,Nat.beq_refl];rfl
theorem Sep.xe {α:Type}{rep:iO α}{ty:TypeId}{sz:Nat}{v:Value}{ls:List (List Value)}{l:List α}(S:Sep c g h Γ) (k:Nat) (hk:Γ[k]? =some (.sl ty sz v ls)) (A:ah (rep g) ls l) (K:R (vi (l.length:Int)) h):WP .dG [v] h R :=
 jd.len (eZ.read (S.eG _ (List.mem_of_getElem? hk))) (by rw [A.1];exact K)
theorem Sep.dZ {α:Type}{rep:iO α}{ty:TypeId}{sz:Nat}{v:Value}{ls:List (List Value)}{l:List α}{n:Int}{x:α}{kd:IntKind}(S:Sep c g h Γ) (k:Nat) (hk:Γ[k]? =some (.sl ty sz v ls)) (A:ah (rep g) ls l) (hx:ix l n=some x)
 (K:∀b o cs,rA v sz n.toNat b o→ls[n.toNat]? =some cs→rep g cs x→R (au b o) h):WP (.bG sz) [v,.int kd n] h R:=by
 obtain⟨i,rfl,hi,hx⟩:=CO hx
 obtain⟨cs,h3,h4⟩:=A.get hx
 obtain⟨b,o,h5,_,h6⟩:=(eZ.read (S.eG _ (List.mem_of_getElem? hk))).idx h3
 exact h6 kd h R (K b o cs h5 h3 h4)
theorem Sep.aov {α:Type}{rep:iO α}{ty:TypeId}{sz:Nat}{v:Value}{ls:List (List Value)}{l:List α}{n:Int}{x:α}{kd:IntKind}{b o:Nat}(S:Sep c g h Γ) (k:Nat) (hk:Γ[k]? =some (.sl ty sz v ls)) (A:ah (rep g) ls l) (hx:ix l n=some x) (E:rA v sz n.toNat b o):WP (.bG sz) [v,.int kd n] h (fun v' _=>rf v' (au b o)=true) :=
 S.dZ k hk A hx fun b' o' cs E' _ _=>by obtain⟨rfl,rfl⟩:=E.same E';exact aou
theorem jd.elem {h2:AH}{sz:Nat}{v:Value}{ls:List (List Value)}(H:jd h2 sz v ls){i b o:Nat}{x:List Value}(hx:ls[i]? =some x) (E:rA v sz i b o):h2.bE b o x:=by
 obtain⟨b',o',⟨o0,n,cap,e1,e2⟩,h1,_⟩:=H.idx hx
 obtain⟨o0',n',dJ,e3,e4⟩:=E
 rw [e1]at e3
 cases e3
 rw [e4,←e2];exact h1
theorem Sep.fG {ty:TypeId}{sz:Nat}{v u:Value}{ls:List (List Value)}{i b o j:Nat}{cs:List Value}(S:Sep c g h Γ) (k:Nat) (hk:Γ[k]? =some (.sl ty sz v ls)) (E:rA v sz i b o) (hc:ls[i]? =some cs) (hv:cs[j]? =some u) (K:R u h):WP .aH [au b (o+j)] h R :=
 (LW (((eZ.read (S.eG _ (List.mem_of_getElem? hk))).elem hc E) j u hv)).2 K
theorem eZ.wr {ty:TypeId}{sz:Nat}{v:Value}{ls:List (List Value)}{i b o j:Nat}{cs m:List Value}(H:eZ h ty sz v ls) (E:rA v sz i b o) (hc:ls[i]? =some cs) (hj:j+m.length≤sz) :
 fa v=[b]∧h.can b (o+j) m.length∧eZ (h.wr b (o+j) m) ty sz v (ls.set i (mj cs j m)):=by
 have hi:i<ls.length:=(List.getElem?_eq_some_iff.1 hc).1
 obtain⟨o0,n0,VL,e1,e2⟩:=E
 subst e2
 have le:(i+1)*sz≤ls.length*sz:=Nat.mul_le_mul_right _ hi
 have hk:i*sz+sz≤ls.length*sz:=by rw [Nat.add_mul,Nat.one_mul]at le;exact le
 have fl:∀(hs:∀x∈ls,x.length=sz) (q:Nat) (u:Value),(ls.set i (mj cs j m)).flatten[q]? =some u→(if i*sz+j≤q∧q<i*sz+j+m.length then m[q-(i*sz+j)]? else ls.flatten[q]?)=some u:=by
  intro hs q u hu
  have fm:cs.length=sz:=hs cs (List.mem_of_getElem? hc)
  rw [aec hs (by rw [VK (by omega),fm]) hi]at hu
  by_cases h1:i*sz≤q∧q<i*sz+sz
  · rw [if_pos h1,aet (by omega)]at hu
    by_cases h2:j≤q-i*sz∧q-i*sz<j+m.length
    · rw [if_pos h2]at hu;rw [if_pos (by omega)];rw [show q-(i*sz+j)=q-i*sz-j by omega];exact hu
    · rw [if_neg h2]at hu;rw [if_neg (by omega)]
      have:=U4 hs hc (q-i*sz) u hu
      rwa [show i*sz+(q-i*sz)=q by omega]at this
  · rw [if_neg h1]at hu;rw [if_neg (by omega)];exact hu
 have sz':∀(hs:∀x∈ls,x.length=sz),∀x∈ls.set i (mj cs j m),x.length=sz:=fun hs x hx=>by
  rcases List.mem_or_eq_of_mem_set hx with h1 | h1
  · exact hs x h1
  · have fm:cs.length=sz:=hs cs (List.mem_of_getElem? hc)
    rw [h1,VK (by omega),fm]
 have aeu:∀lo hi cJ cc,h.ob.get b=some (.cells lo hi cJ true cc)→(h.wr b (o0+i*sz+j) m).ob.get b=some (.cells lo hi cJ true (kL cc (o0+i*sz+j) m)):=fun lo hi cJ cc hg=>by
  unfold AH.wr;rw [hg];show(h.ob.set b _).get b=_;rw [NT.eK,if_pos rfl]
 cases H with
 | nil=>simp at hi
 | un b' o' n lo dK cc ls hn hb hg h1 h2 hr hs =>
  cases e1
  have iz:h.can b (o0+i*sz+j) m.length:=⟨lo,dK,ty,cc,hg,by omega,by rw [hn]at h2;omega⟩
  refine⟨rfl,iz,.un b o0 n0 lo dK _ _ (by simp [hn]) hb (aeu _ _ _ _ hg) h1 h2 (fun q u hu=> ?_) (sz' hs)⟩
  rw [AH.wT iz (Nat.le_refl _)]
  have:=fl hs q u hu
  split at this
  · rw [if_pos (by omega)];rw [show o0+q-(o0+i*sz+j)=q-(i*sz+j) by omega];exact this
  · rw [if_neg (by omega)];exact hr q u this
 | kn b' o' n cap lo dK cJ cc ls hn hb ri hg h1 h2 hr hs =>
  cases e1
  have:ls.length*sz≤VL*sz:=Nat.mul_le_mul_right _ (by omega)
  have iz:h.can b (o0+i*sz+j) m.length:=⟨lo,dK,cJ,cc,hg,by omega,by omega⟩
  refine⟨rfl,iz,.kn b o0 n0 VL lo dK cJ _ _ (by simp [hn]) hb ri (aeu _ _ _ _ hg) h1 h2 (fun q u hu=> ?_) (sz' hs)⟩
  rw [AH.wT iz (Nat.le_refl _)]
  have:=fl hs q u hu
  split at this
  · rw [if_pos (by omega)];rw [show o0+q-(o0+i*sz+j)=q-(i*sz+j) by omega];exact this
  · rw [if_neg (by omega)];exact hr q u this
theorem eZ.lt {ty:TypeId}{sz:Nat}{v:Value}{ls:List (List Value)}(H:eZ h ty sz v ls) (ok:h.Ok):∀b∈fa v,b<h.nx:=by
 cases H with
 | nil=>intro b hb;simp [fa]at hb
 | un b o n lo hi c ls hn hb hg h1 h2 hr hs=>intro b' cG;simp [fa]at cG;subst cG;exact AH.lt_of_get ok hg
 | kn b o n cap lo hi cJ c ls hn hb hc hg h1 h2 hr hs=>intro b' cG;simp [fa]at cG;subst cG;exact AH.lt_of_get ok hg
theorem aev (v:Value):(fa v).Nodup:=by unfold fa;split<;>simp
theorem xf {ty:TypeId}{sz:Nat}{v:Value}{ls:List (List Value)}:(Ob.sl ty sz v ls).bN.Nodup:=aev v
theorem Sep.rB {ty:TypeId}{sz n:Nat}{v u:Value}{ls:List (List Value)}{i b o j:Nat}{cs:List Value}(m:List Value) (S:Sep c g h (.sl ty sz v ls::Γ)) (E:rA v sz i b o) (hc:ls[i]? =some cs) (hm:cellsOf u=m) (hn:m.length=n) (ha:dP m=true) (hj:j+n≤sz)
 (K:∀h',Sep c g h' (.sl ty sz v (ls.set i (mj cs j m))::Γ)→R undef h'):WP (.store n) [au b (o+j),u] h R:=by
 subst hm;subst hn
 have H:eZ h ty sz v ls:=S.eG _ List.mem_cons_self
 obtain⟨h1,h2,h3⟩:=H.wr E hc hj
 refine(LY h2 rfl ha).2 (K _ ?_)
 refine S.change _ (AH.uV S.ok _ _ _) (by rw [AH.nb];exact Nat.le_refl _) (fun f _ hf=>AH.wS h (fun e=>hf (by subst e;show f∈fa v;rw [h1];simp))) h3 (aev v) (fun b' cG=>⟨by rw [AH.nb];exact H.lt S.ok b' cG,.inr cG⟩)
theorem Sep.VM {ty:TypeId}{sz:Nat}{zero:List Value}{n:Int}{k1 k2:IntKind}(S:Sep c g h Γ) (hn:(decide (0≤n)&&decide (n≤65536))=true) (hz:zero.length=sz) (ha:dP zero=true) (K:∀v h',Sep c g h' (.sl ty sz v (List.replicate n.toNat zero)::Γ)→R v h') :
 WP (.mkSlice ty sz zero) [.int k1 n,.int k2 n] h R:=by
 rw [Bool.and_eq_true,decide_eq_true_eq,decide_eq_true_eq]at hn
 obtain⟨i,rfl⟩:∃i:Nat,n=i:=⟨n.toNat,by omega⟩
 rw [Int.toNat_natCast]at K
 have gz:∀k:Nat,dP (List.replicate k zero).flatten=true:=by
  intro k
  induction k with
  | zero=>rfl
  | succ k ih =>
   rw [List.replicate_succ,List.flatten_cons]
   have app:∀(l m:List Value),dP l=true→dP m=true→dP (l++m)=true:=fun l m h1 h2=>by
    induction l with
    | nil=>exact h2
    | cons v l Ud =>
     rw [uZ,Bool.and_eq_true]at h1
     rw [List.cons_append,uZ,Bool.and_eq_true]
     exact⟨h1.1,Ud h1.2⟩
   exact app _ _ ha ih
 refine(adm (Nat.le_refl i) (by omega) hz (gz i)).2 (K _ _ ?_)
 have hlen:(List.replicate i zero).flatten.length=i*sz:=by rw [rv (sz:=sz) (fun x hx=>by rw [(List.mem_replicate.1 hx).2];exact hz)];simp
 refine S.add _ (AH.uU S.ok _ _) (Nat.le_succ _) (dT.new h _ _).get ?_ xf (fun b hb=>by simp [Ob.bN,fa]at hb;subst hb;exact⟨Nat.lt_succ_self _,Nat.le_refl _⟩)
 refine .kn h.nx 0 i i 0 (List.replicate i zero).flatten.length ty _ _ (by simp) (Nat.le_refl _) (by unfold bg;omega) (by show(h.ob.set h.nx _).get h.nx=_;rw [NT.eK,if_pos rfl]) (Nat.le_refl _) (by rw [hlen];omega) ?_ (fun x hx=>by rw [(List.mem_replicate.1 hx).2];exact hz)
 exact AH.LM h ty _
theorem Sep.qy {ty:TypeId}{n sz:Nat}{cells:List Value}{ps:List (Nat×Nat)}{vs:List Value}(ls:List (List Value)) (S:Sep c g h Γ) (hf:ml cells ps vs=some ls.flatten) (hn:ls.length=n) (hu:n<1000000) (hs:∀x∈ls,x.length=sz) (ha:dP ls.flatten=true)
 (K:∀v h',Sep c g h' (.sl ty sz v ls::Γ)→R v h'):WP (.buildSlice ty n cells ps) vs h R:=by
 subst hn
 refine(amZ hf ha).2 (K _ _ ?_)
 refine S.add _ (AH.uU S.ok _ _) (Nat.le_succ _) (dT.new h _ _).get ?_ xf (fun b hb=>by simp [Ob.bN,fa]at hb;subst hb;exact⟨Nat.lt_succ_self _,Nat.le_refl _⟩)
 exact .kn h.nx 0 ls.length ls.length 0 ls.flatten.length ty _ ls rfl (Nat.le_refl _) (by unfold bg;omega) (by show(h.ob.set h.nx _).get h.nx=_;rw [NT.eK,if_pos rfl]) (Nat.le_refl _) (by rw [rv hs];omega) (AH.LM h ty _) hs
theorem jd.src {sz:Nat}{x:Value}{xs:List (List Value)}(H:jd h sz x xs) (h0:0<sz) (k:Nat→List Value→Bool):mX h sz x k=k xs.length xs.flatten:=by
 cases H with
 | nil=>exact amR sz k
 | mk b o n cap _ hn hc hs hr =>
  subst hn
  cases xs with
  | nil=>exact amT k
  | cons y l=>exact amS hr (rv hs) (Nat.mul_pos (by simp) h0) k
theorem aew {b o lo hi at_:Nat}{ty:TypeId}{rw:Bool}{cc:NT Value}{old xs:List Value}{h2:AH}(hg2:h2.ob.get b=some (.cells lo hi ty rw (kL cc at_ xs))) (e:at_=o+old.length) (h1:lo≤o) (UF:o+old.length+xs.length≤hi) (ho:∀q u,old[q]? =some u→cc.get (o+q)=some u):h2.bE b o (old++xs):=by
 subst e
 intro q u hu
 have hq:q<(old++xs).length:=(List.getElem?_eq_some_iff.1 hu).1
 rw [List.length_append]at hq
 unfold AH.rd
 rw [hg2]
 show(if lo≤o+q∧o+q+1≤hi then(kL cc (o+old.length) xs).get (o+q)else none)=some u
 rw [if_pos ⟨by omega,by omega⟩,zE]
 by_cases h:q<old.length
 · rw [if_neg (by omega)]
   rw [List.getElem?_append_left h]at hu
   exact ho q u hu
 · rw [if_pos ⟨by omega,by omega⟩]
   rw [List.getElem?_append_right (by omega)]at hu
   rw [show o+q-(o+old.length)=q-old.length by omega];exact hu
theorem aex {b o lo hi:Nat}{ty:TypeId}{rw:Bool}{cc:NT Value}{l:List Value}(hg:h.ob.get b=some (.cells lo hi ty rw cc)) (hr:h.bE b o l):∀q u,l[q]? =some u→cc.get (o+q)=some u:=fun q u hu=>by
 obtain⟨wV,dK,cJ,oh,c',g1,_,_,g4⟩:=LN (hr q u hu)
 rw [hg]at g1;cases g1;exact g4
theorem VN {sz:Nat}{ls xs:List (List Value)}(hs:∀x∈ls,x.length=sz) (hx:∀x∈xs,x.length=sz):∀x∈ls++xs,x.length=sz:=fun x h=>by
 rcases List.mem_append.1 h with h | h
 · exact hs x h
 · exact hx x h
theorem aey {l m:List Value}(h1:dP l=true) (h2:dP m=true):dP (l++m)=true:=by
 induction l with
 | nil=>exact h2
 | cons v l ih =>
  rw [uZ,Bool.and_eq_true]at h1
  rw [List.cons_append,uZ,Bool.and_eq_true]
  exact⟨h1.1,ih h1.2⟩
theorem jd.yU {sz:Nat}{x:Value}{xs:List (List Value)}(H:jd h sz x xs):∀y∈xs,y.length=sz:=by
 cases H with
 | nil=>intro y hy;simp at hy
 | mk b o n cap ls hn hc hs hr=>exact hs
theorem aow {ty:TypeId}{sz n:Nat}{zero xs:List Value}{x:Value}(hx:∀k:Nat→List Value→Bool,mX h sz x k=k n xs) (h1:1≤sz) (hz:zero.length=sz) (hn:0<n){b o cap:Nat}{s:Option Nat}(hb:n≤1048576) (hc:cap<n) (ha:dP xs=true) :
 WP (.append ty sz zero) [.slice (some ⟨b,o,s⟩) 0 cap,x] h R↔R (eR h.nx 0 n (bg+sz)) (h.new ty xs):=dF fun k=>by
 rw [zH hx h1 hz]
 show(bif Nat.beq n 0 then k (.slice (some ⟨b,o,none⟩) 0 cap) h else fN (Nat.add 0 n) fun jJ=>iff (Nat.ble jJ 1048576) (bif Nat.ble bg cap then _ else bif Nat.ble jJ cap then _ else bif Nat.beq 0 0 then lV h ty xs (fun b' h=>fN (Nat.add bg sz) fun cp=>k (.slice (some ⟨b',0,none⟩) jJ cp) h)else _))=_
 have e:Nat.ble (0+n) 1048576=true:=by rw [Nat.ble_eq];omega
 have e2:Nat.ble bg cap=false:=by
  have:¬bg≤cap:=by unfold bg;omega
  cases hh:Nat.ble bg cap with
  | false=>rfl
  | true=>rw [Nat.ble_eq]at hh;exact absurd hh this
 have e3:Nat.ble (0+n) cap=false:=by
  cases hh:Nat.ble (0+n) cap with
  | false=>rfl
  | true=>rw [Nat.ble_eq]at hh;omega
 rw [gg (show n≠0 by omega)]
 simp only [cond_false]
 rw [cz,show Nat.add 0 n=0+n from rfl,e,gj,e2,e3]
 show lV h ty xs _=_
 rw [zF h ty ha,cz,Nat.zero_add];rfl
theorem aox {ty:TypeId}{sz n:Nat}{zero xs:List Value}{x:Value}(hx:∀k:Nat→List Value→Bool,mX h sz x k=k n xs) (h1:1≤sz) (hz:zero.length=sz) (hn:0<n){b o len cap:Nat}{s:Option Nat}(hb:len+n≤1048576) (hc:len+n≤cap) (hu:cap<bg) (ha:dP xs=true) (hw:h.can b (o+len*sz) xs.length) :
 WP (.append ty sz zero) [.slice (some ⟨b,o,s⟩) len cap,x] h R↔R (eR b o (len+n) cap) (h.wr b (o+len*sz) xs):=dF fun k=>by
 rw [zH hx h1 hz]
 show(bif Nat.beq n 0 then k (.slice (some ⟨b,o,none⟩) len cap) h else fN (Nat.add len n) fun jJ=>iff (Nat.ble jJ 1048576) (bif Nat.ble bg cap then _ else bif Nat.ble jJ cap then fN (Nat.add o (Nat.mul len sz)) (fun at_=>re h b at_ xs fun h=>k (.slice (some ⟨b,o,none⟩) jJ cap) h)else _))=_
 have e:Nat.ble (len+n) 1048576=true:=by rw [Nat.ble_eq];omega
 have e2:Nat.ble bg cap=false:=by
  cases hh:Nat.ble bg cap with
  | false=>rfl
  | true=>rw [Nat.ble_eq]at hh;omega
 have e3:Nat.ble (len+n) cap=true:=by rw [Nat.ble_eq];exact hc
 rw [gg (show n≠0 by omega)]
 simp only [cond_false]
 rw [cz,show Nat.add len n=len+n from rfl,e,gj,e2,e3]
 simp only [cond_true,cond_false]
 rw [cz]
 show re h b (o+len*sz) xs _=_
 rw [LU hw ha]
theorem Sep.app {ty:TypeId}{sz:Nat}{zero:List Value}{s x:Value}{ls xs:List (List Value)}(S:Sep c g h (.sl ty sz s ls::Γ)) (X:jd h sz x xs) (hb:decide (ls.length+xs.length≤1048576)=true) (h0:0<sz) (hz:zero.length=sz) (ha:dP xs.flatten=true) (zY:dP ls.flatten=true)
 (K:∀s' h',Sep c g h' (.sl ty sz s' (ls++xs)::Γ)→R s' h'):WP (.append ty sz zero) [s,x] h R:=by
 rw [decide_eq_true_eq]at hb
 have xg:=X.src h0
 have pc:=X.yU
 have H:eZ h ty sz s ls:=S.eG _ List.mem_cons_self
 have VO:xs.flatten.length=xs.length*sz:=rv pc
 cases xs with
 | nil =>
  cases H with
  | nil=>exact(amU xg h0 hz).2 (K _ _ (by simpa using S))
  | un b o n lo hi cc ls hn zZ hg h1 h2 hr hs=>exact(adn xg h0 hz).2 (K _ _ (by simpa using S))
  | kn b o n cap lo hi cJ cc ls hn zZ ri hg h1 h2 hr hs=>exact(adn xg h0 hz).2 (K _ _ (by simpa using S))
 | cons y xs =>
  have pq:0<(y::xs).length:=by simp
  generalize y::xs=xs at *
  have aoy:∀(all:List (List Value)),all.length<bg→(∀x∈all,x.length=sz)→eZ (h.new ty all.flatten) ty sz (eR h.nx 0 all.length (bg+sz)) all:=fun all hu hs=>by
   refine .un h.nx 0 all.length 0 all.flatten.length _ all rfl hu (by show(h.ob.set h.nx _).get h.nx=_;rw [NT.eK,if_pos rfl]) (Nat.le_refl _) ?_ (AH.LM h ty _) hs
   rw [rv hs];omega
  have awt:1048576<bg:=by unfold bg;omega
  have fresh:∀(all:List (List Value)),all.length<bg→(∀x∈all,x.length=sz)→Sep c g (h.new ty all.flatten) (.sl ty sz (eR h.nx 0 all.length (bg+sz)) all::Γ):=fun all hu hs =>
   S.change _ (AH.uU S.ok _ _) (Nat.le_succ _) (fun f hf _=>(dT.new h ty _).get f hf) (aoy all hu hs) xf (fun b hb=>by simp [Ob.bN,fa]at hb;subst hb;exact⟨Nat.lt_succ_self _,.inl (Nat.le_refl _)⟩)
  cases H with
  | nil =>
   refine(amV xg h0 hz pq (by simpa using hb) ha).2 (K _ _ ?_)
   exact fresh xs (by simp at hb;omega) pc
  | un b o n lo hi cc ls hn zZ hg h1 h2 hr hs =>
   subst hn
   refine(amW xg h0 hz pq hb ha hg h1 h2).2 (K _ _ ?_)
   have bJ:=AH.lt_of_get S.ok hg
   have zX:(h.grown b o ty cc (o+ls.length*sz) (o+(ls.length+xs.length)*sz) xs.flatten).ob.get h.nx=some (.cells o (o+(ls.length+xs.length)*sz) ty true (kL cc (o+ls.length*sz) xs.flatten)):=by
    show((h.kill b).ff _).ob.get h.nx=_
    rw [AH.sU,if_pos (show h.nx=(h.kill b).nx from rfl)]
   refine S.change _ (AH.Cj (AH.adk S.ok b) _) (Nat.le_succ _) (fun f hf dr=> ?_) ?_ xf (fun b' cG=>by simp [Ob.bN,fa]at cG;subst cG;exact⟨Nat.lt_succ_self _,.inl (Nat.le_refl _)⟩)
   · have hfb:f≠b:=fun e=>dr (by rw [e];simp [Ob.bN,fa])
     show((h.kill b).ff _).ob.get f=_
     rw [AH.sU,if_neg (show¬f=(h.kill b).nx from fun e=>by have e':f=h.nx:=e;omega),AH.L9,if_neg hfb]
   · refine .un h.nx o (ls.length+xs.length) o (o+(ls.length+xs.length)*sz) _ (ls++xs) (by simp) (by omega) zX (Nat.le_refl _) (Nat.le_refl _) ?_ (VN hs pc)
     rw [List.flatten_append]
     exact aew zX (by rw [rv hs]) (Nat.le_refl _) (by rw [rv hs,VO,Nat.add_mul];omega) (aex hg hr)
  | kn b o n cap lo hi cJ cc ls hn zZ ri hg h1 h2 hr hs =>
   subst hn
   by_cases pC:ls.length+xs.length≤cap
   · have hmul:(ls.length+xs.length)*sz≤cap*sz:=Nat.mul_le_mul_right _ pC
     rw [Nat.add_mul]at hmul
     have hw:h.can b (o+ls.length*sz) xs.flatten.length:=⟨lo,hi,cJ,cc,hg,by omega,by rw [VO];omega⟩
     refine(aox xg h0 hz pq hb pC ri ha hw).2 (K _ _ ?_)
     have zX:(h.wr b (o+ls.length*sz) xs.flatten).ob.get b=some (.cells lo hi cJ true (kL cc (o+ls.length*sz) xs.flatten)):=by
      unfold AH.wr;rw [hg];show(h.ob.set b _).get b=_;rw [NT.eK,if_pos rfl]
     refine S.change _ (AH.uV S.ok _ _ _) (by rw [AH.nb];exact Nat.le_refl _) (fun f _ hf=>AH.wS h (fun e=>hf (by rw [e];simp [Ob.bN,fa]))) ?_ xf (fun b' cG=>by simp [Ob.bN,fa]at cG;subst cG;exact⟨by rw [AH.nb];exact AH.lt_of_get S.ok hg,.inr (by simp [Ob.bN,fa])⟩)
     refine .kn b o (ls.length+xs.length) cap lo hi cJ _ (ls++xs) (by simp) pC ri zX h1 h2 ?_ (VN hs pc)
     rw [List.flatten_append]
     exact aew zX (by rw [rv hs]) h1 (by rw [rv hs,VO];omega) (aex hg hr)
   · have o7:=hr
     have VP:=fresh (ls++xs) (by simp;omega) (VN hs pc)
     rw [List.flatten_append,List.length_append]at VP
     cases ls with
     | nil =>
      have:WP (.append ty sz zero) [eR b o 0 cap,x] h R:=(aow xg h0 hz pq (by simpa using hb) (by simp at pC;omega) ha).2 (K _ _ (by simpa using VP))
      simpa using this
     | cons z ls =>
      exact(amX xg h0 hz pq hb (by omega) (aey zY ha) (by simp) hr (rv hs)).2 (K _ _ VP)
def GA {α:Type}(l:List α) (a b:Int):Option (List α):=gu (decide (0≤a)&&decide (a≤b)&&decide (b≤(l.length:Int))) (some ((l.take b.toNat).drop a.toNat))
theorem aoz {α:Type}{l m:List α}{a b:Int}(h:GA l a b=some m):∃i j:Nat,a=i∧b=j∧i≤j∧j≤l.length∧m=(l.take j).drop i:=by
 obtain⟨h1,h2⟩:=mo h
 simp only [Bool.and_eq_true,decide_eq_true_eq]at h1
 cases h2
 exact⟨a.toNat,b.toNat,by omega,by omega,by omega,by omega,rfl⟩
def ti (sz:Nat) (v:Value) (i j:Nat):Value:=match v with
 | .slice (some a) n cap=>if cap<bg then(if cap=i then .slice (some ⟨a.block,a.off,none⟩) (j-i) 0 else .slice (some ⟨a.block,a.off+i*sz,none⟩) (j-i) (cap-i))else .slice (some ⟨a.block,a.off+i*sz,none⟩) (j-i) cap
 | v=>v
theorem M0 {sz:Nat}{b o n cap i j:Nat}(hc:Vy sz n cap) (CQ:i≤j) (hj:j≤n) (lo hi:Bool){vs:List Value}(hl:lo=false→i=0) (hh:hi=false→j=n){k1 k2:IntKind}(hv:vs=(if lo then [.int k1 (i:Int)]else [])++(if hi then [.int k2 (j:Int)]else [])) (K:R (ti sz (eR b o n cap) i j) h) :
    WP (.slice sz lo hi false) (eR b o n cap::vs) h R:=by
  have key:∀k:KV,(iff (true&&Nat.ble i j&&Nat.ble j cap&&(Nat.ble j n|| !(Nat.ble bg cap))&&true&&(bif Nat.ble bg cap then Nat.beq cap (Nat.add bg sz)else true)) (uJ sz i j cap cap false b o fun v=>k v h))=k (ti sz (eR b o n cap) i j) h:=fun k=>by
    obtain⟨hn,hc⟩:=hc
    rcases hc with⟨h1,h2⟩ | h1
    · have e1:Nat.ble bg cap=false:=by
        cases hh:Nat.ble bg cap with
        | false=>rfl
        | true=>rw [Nat.ble_eq]at hh;omega
      have e2:(true&&Nat.ble i j&&Nat.ble j cap&&(Nat.ble j n|| !(Nat.ble bg cap))&&true&&(bif Nat.ble bg cap then Nat.beq cap (Nat.add bg sz)else true))=true:=by
        rw [e1];simp only [Bool.and_eq_true,Nat.ble_eq,Bool.or_eq_true,Bool.not_false,cond_false];exact⟨⟨⟨⟨⟨trivial,CQ⟩,by omega⟩,.inl hj⟩,trivial⟩,trivial⟩
      rw [e2,gj]
      unfold uJ
      rw [cz,e1]
      show iff (Nat.ble (Nat.succ cap) bg) _=_
      have e3:Nat.ble (Nat.succ cap) bg=true:=by rw [Nat.ble_eq];exact h2
      rw [e3,gj]
      show _=k (if cap<bg then(if cap=i then .slice (some ⟨b,o,none⟩) (j-i) 0 else .slice (some ⟨b,o+i*sz,none⟩) (j-i) (cap-i))else .slice (some ⟨b,o+i*sz,none⟩) (j-i) cap) h
      rw [if_pos h2]
      by_cases lC:cap=i
      · rw [if_pos lC,ma lC];rfl
      · rw [if_neg lC,gg lC]
        simp only [cond_false]
        rw [cz,cz];rfl
    · subst h1
      have e1:Nat.ble bg (bg+sz)=true:=by rw [Nat.ble_eq];omega
      have e4:Nat.beq (bg+sz) (Nat.add bg sz)=true:=by rw [Nat.beq_eq];rfl
      have e2:(true&&Nat.ble i j&&Nat.ble j (bg+sz)&&(Nat.ble j n|| !(Nat.ble bg (bg+sz)))&&true&&(bif Nat.ble bg (bg+sz)then Nat.beq (bg+sz) (Nat.add bg sz)else true))=true:=by
        rw [e1,e4];simp only [Bool.and_eq_true,Nat.ble_eq,Bool.or_eq_true,Bool.not_true,cond_true];exact⟨⟨⟨⟨⟨trivial,CQ⟩,by omega⟩,.inl hj⟩,trivial⟩,trivial⟩
      rw [e2,gj]
      unfold uJ
      rw [cz,e1]
      simp only [Bool.not_false,Bool.and_true,cond_true]
      rw [cz]
      show _=k (if bg+sz<bg then _ else .slice (some ⟨b,o+i*sz,none⟩) (j-i) (bg+sz)) h
      rw [if_neg (by omega)];rfl
  subst hv
  cases lo<;>cases hi
  · have hl:=hl rfl;have hh:=hh rfl;subst hl;subst hh
    exact(dF (p:=.slice sz false false false) (vs:=[eR b o j cap]) (v:=ti sz (eR b o j cap) 0 j) (h':=h) (h:=h) key).2 K
  · have hl:=hl rfl;subst hl
    exact(dF (p:=.slice sz false true false) (vs:=[eR b o n cap,.int k2 (j:Int)]) (v:=ti sz (eR b o n cap) 0 j) (h':=h) (h:=h) key).2 K
  · have hh:=hh rfl;subst hh
    exact(dF (p:=.slice sz true false false) (vs:=[eR b o j cap,.int k1 (i:Int)]) (v:=ti sz (eR b o j cap) i j) (h':=h) (h:=h) key).2 K
  · exact(dF (p:=.slice sz true true false) (vs:=[eR b o n cap,.int k1 (i:Int),.int k2 (j:Int)]) (v:=ti sz (eR b o n cap) i j) (h':=h) (h:=h) key).2 K
theorem eZ.cut {ty:TypeId}{sz:Nat}{v:Value}{ls:List (List Value)}(H:eZ h ty sz v ls){i j:Nat}(CQ:i≤j) (hj:j≤ls.length) (lo hi:Bool) (hl:lo=false→i=0) (hh:hi=false→j=ls.length){k1 k2:IntKind}{vs:List Value}(hv:vs=(if lo then [.int k1 (i:Int)]else [])++(if hi then [.int k2 (j:Int)]else [])) :
 ∃v',eZ h ty sz v' ((ls.take j).drop i)∧fa v'=fa v∧∀(R:Value→AH→Prop),R v' h→WP (.slice sz lo hi false) (v::vs) h R:=by
 cases H with
 | nil =>
  have hj0:j=0:=by simpa using hj
  have qz:i=0:=by omega
  subst hj0;subst qz
  refine⟨cg,.nil,rfl,fun R K=> ?_⟩
  subst hv
  cases lo<;>cases hi<;>exact fun k hk=>hk _ _ K
 | un b o n wV dK cc ls hn zZ hg h1 h2 hr hs =>
  subst hn
  refine⟨ti sz (eR b o ls.length (bg+sz)) i j, ?_, ?_,fun R K=>M0 ⟨zZ,.inr rfl⟩ CQ hj lo hi hl hh hv K⟩
  · show eZ h ty sz (if bg+sz<bg then _ else .slice (some ⟨b,o+i*sz,none⟩) (j-i) (bg+sz)) _
    rw [if_neg (by omega)]
    have m1:i*sz≤j*sz:=Nat.mul_le_mul_right _ CQ
    have m2:j*sz≤ls.length*sz:=Nat.mul_le_mul_right _ hj
    refine .un b _ _ wV dK cc _ (by simp;omega) (by omega) hg (by omega) (by rw [Nat.sub_mul];omega) ?_ (fun x hx=>hs x (List.mem_of_mem_take (List.mem_of_mem_drop hx)))
    rw [Vz i (fun x hx=>hs x (List.mem_of_mem_take hx)),VA j hs]
    exact VC _ (VB _ hr)
  · show fa (if bg+sz<bg then _ else .slice (some ⟨b,o+i*sz,none⟩) (j-i) (bg+sz))=_
    rw [if_neg (by omega)];rfl
 | kn b o n cap wV dK cJ cc ls hn zZ ri hg h1 h2 hr hs =>
  subst hn
  refine⟨ti sz (eR b o ls.length cap) i j, ?_, ?_,fun R K=>M0 ⟨by omega,.inl ⟨zZ,ri⟩⟩ CQ hj lo hi hl hh hv K⟩
  · show eZ h ty sz (if cap<bg then(if cap=i then .slice (some ⟨b,o,none⟩) (j-i) 0 else .slice (some ⟨b,o+i*sz,none⟩) (j-i) (cap-i))else .slice (some ⟨b,o+i*sz,none⟩) (j-i) cap) _
    rw [if_pos ri]
    have m1:i*sz≤cap*sz:=Nat.mul_le_mul_right _ (by omega)
    by_cases lC:cap=i
    · rw [if_pos lC]
      have:j=i:=by omega
      subst this
      have e:(ls.take j).drop j=[]:=List.drop_of_length_le (by rw [List.length_take];omega)
      rw [e]
      exact .kn b o _ 0 wV dK cJ cc [] (by simp) (by omega) (by omega) hg h1 (by omega) (AH.Ub _ _ _) (by simp)
    · rw [if_neg lC]
      refine .kn b _ _ _ wV dK cJ cc _ (by simp;omega) (by omega) (by omega) hg (by omega) (by rw [Nat.sub_mul];omega) ?_ (fun x hx=>hs x (List.mem_of_mem_take (List.mem_of_mem_drop hx)))
      rw [Vz i (fun x hx=>hs x (List.mem_of_mem_take hx)),VA j hs]
      exact VC _ (VB _ hr)
  · show fa (if cap<bg then(if cap=i then .slice (some ⟨b,o,none⟩) (j-i) 0 else .slice (some ⟨b,o+i*sz,none⟩) (j-i) (cap-i))else .slice (some ⟨b,o+i*sz,none⟩) (j-i) cap)=_
    by_cases h5:cap=i
    · rw [if_pos ri,if_pos h5];rfl
    · rw [if_pos ri,if_neg h5];rfl
end
end
end Go.Ve
namespace Go.Ve
open Go.RowKit
open Classical
noncomputable section
def One {α:Type}(rep:iO α) (n:Nat):Prop:=∀g vs x,rep g vs x→vs.length=n∧dP vs=true
theorem l3 (k:IntKind):One (rI k) 1:=fun _ vs x h=>by cases h;exact⟨rfl,rfl⟩
theorem aa {v:Value}{l:List Value}(h1:fR v=true) (h2:dP l=true):dP (v::l)=true:=by rw [uZ,h1,h2];rfl
theorem aez {α:Type}{rep:iO α}{sz:Nat}:One (rL rep sz) 1:=fun _ vs x ⟨v,h1,h2⟩=>by subst h1;exact⟨rfl,aa h2.one rfl⟩
theorem la {α:Type}{rep:iO α}{n:Nat}(H:One rep n){g:AH}{ls:List (List Value)}{l:List α}(A:ah (rep g) ls l):dP ls.flatten=true:=by
 induction ls generalizing l with
 | nil=>rfl
 | cons x ls ih =>
  cases l with
  | nil=>have:=A.1;simp at this
  | cons y l =>
   rw [List.flatten_cons]
   refine aey (H g x y (A.2 0 x y rfl rfl)).2 (ih (l:=l) ⟨by simpa using A.1,fun i a b ha hb=>A.2 (i+1) a b (by simpa using ha) (by simpa using hb)⟩)
def bytesOf (l:List UInt8):ByteArray:=⟨⟨l⟩⟩
theorem qA {sz:Nat}:∀x∈([]:List (List Value)),x.length=sz:=fun x h=>by simp at h
theorem tj {sz:Nat}{y:List Value}{l:List (List Value)}(h1:y.length=sz) (h2:∀x∈l,x.length=sz):∀x∈y::l,x.length=sz:=fun x h=>by
 rcases List.mem_cons.1 h with rfl | h
 · exact h1
 · exact h2 x h
theorem de {l m l2 r:List Value}{o n:Nat}{ps:List (Nat×Nat)}{v:Value}{vs:List Value}(h1:cellsOf v=m) (h2:m.length=n) (h3:o+n≤l.length) (h4:mj l o m=l2) (H:ml l2 ps vs=some r):ml l ((o,n)::ps) (v::vs)=some r:=by
 subst h1;subst h4
 unfold ml
 rw [if_pos ⟨h2,h3⟩];exact H
theorem z6 {k:IntKind}{n:Int}:rf (.int k n) (.int k n)=true:=by
 show(bif gK k k then mT n n else false)=true
 rw [qv,FQ];simp
theorem aoA {b o:Nat}:rf (au b o) (au b o)=true:=by
 show(Nat.beq b b&&Nat.beq o o)=true
 rw [Nat.beq_refl,Nat.beq_refl];rfl
theorem Vx {k:IntKind}{n:Int}:sL (.int k n) (.int k n)=true:=by
 show(bif gK k k then mT n n else false)=true
 rw [qv,FQ];simp
theorem aea {s:ByteArray}:sL (.string s) (.string s)=true:=by
 show lE s.data.toList s.data.toList=true
 rw [adb];simp
theorem jd.M1 {g:AH}{sz:Nat}{v:Value}{ls:List (List Value)}(H:jd g sz v ls):rf v v=true:=by
 cases H with
 | nil=>rfl
 | mk b o n cap ls hn hc hs hr =>
  show(Nat.beq b b&&Nat.beq o o&&Nat.beq n n&&Nat.beq cap cap)=true
  rw [Nat.beq_refl,Nat.beq_refl,Nat.beq_refl,Nat.beq_refl];rfl
theorem jd.MS {g:AH}{sz:Nat}{v:Value}{ls:List (List Value)}(H:jd g sz v ls):sL v v=true:=by
 have:=H.M1
 cases H with
 | nil=>rfl
 | mk b o n cap ls hn hc hs hr=>exact this
theorem ab.MS {α:Type}{rep:iO α}{sz:Nat}{g:AH}{v:Value}{l:List α}(F:ab rep sz g v l):sL v v=true:=by obtain⟨ls,h,_⟩:=F;exact h.MS
theorem aob:qp [] []=true:=rfl
theorem zU {v:Value}{l:List Value}(h1:sL v v=true) (h2:qp l l=true):qp (v::l) (v::l)=true:=by
 show(sL v v&&qp l l)=true
 rw [h1,h2];rfl
theorem aoa {l:List Value}(h:qp l l=true):rf (.agg ⟨l⟩) (.agg ⟨l⟩)=true:=h
theorem an9 {c want:Bool}{A:W→W}{K:W}{h:AH}(e:c=want) (H:A K h):gk (.bool c) want A K h:=by
 subst e;unfold gk;cases c<;>exact H
theorem an7 {c want:Bool}{A:W→W}{K:W}{h:AH}(e:c≠want) (H:K h):gk (.bool c) want A K h:=by
 unfold gk;cases c<;>cases want<;>first | exact absurd rfl e | exact H
theorem eB {want:Bool}{A:(Value→W)→W}{K:Value→W}{h:AH}(H:K undef h):gd undef want A K h:=H
theorem vm {A B:W}{h:AH}(H:A h):br (.bool true) A B h:=H
theorem oE {A B:W}{h:AH}(H:B h):br (.bool false) A B h:=H
section
variable {c:Cx}{g h g' h':AH}{Γ:List Ob}{R:Value→AH→Prop}
theorem CS {α:Type}{len:Nat}(l:List α) (f:α→Value) (hl:l.length=len){n:Int}{x:α}{kd:IntKind}(hx:ix l n=some x) (K:R (f x) h):WP (.tU len) [.agg ⟨l.map f⟩,.int kd n] h R:=by
 obtain⟨i,rfl,hi,hx⟩:=CO hx
 exact(amB (by omega) (by rw [List.getElem?_map,hx];rfl)).2 K
theorem VQ {α:Type}{len sz b o:Nat}{l:List α}{n:Int}{x:α}{kd:IntKind}(hx:ix l n=some x) (hl:l.length=len) (K:R (au b (o+n.toNat*sz)) h):WP (.Bz len sz) [au b o,.int kd n] h R:=by
 obtain⟨i,rfl,hi,hx⟩:=CO hx
 exact(amA (by omega)).2 K
theorem VS {α:Type}(pre:List Value) (l:List α) (f:α→Value) (post:List Value){n:Int}{x:α}(hx:ix l n=some x):(pre++(l.map f++post))[pre.length+n.toNat*1]? =some (f x):=by
 obtain⟨i,rfl,hi,hx⟩:=CO hx
 rw [List.getElem?_append_right (by omega),List.getElem?_append_left (by simp;omega),List.getElem?_map,Int.toNat_natCast,Nat.mul_one,Nat.add_sub_cancel_left,hx];rfl
theorem Sep.oF {ty:TypeId}{sz:Nat}{v:Value}{ls:List (List Value)}(S:Sep c g h Γ) (k:Nat) (hk:Γ[k]? =some (.sl ty sz v ls)):fR v=true:=eZ.one (S.eG _ (List.mem_of_getElem? hk))
theorem Sep.rd {ty:TypeId}{sz:Nat}{v:Value}{ls:List (List Value)}(S:Sep c g h Γ) (k:Nat) (hk:Γ[k]? =some (.sl ty sz v ls)):jd h sz v ls:=eZ.read (S.eG _ (List.mem_of_getElem? hk))
theorem Sep.dB (S:Sep c g h Γ) (S':Sep ⟨g,h,[]⟩ g' h' []):Sep c g h' Γ :=
 S.call ((Sep.start S.sub S.ok).back S' S'.bF)
theorem Sep.take (S:Sep c g h Γ) (n:Nat):Sep c g h (Γ.take n):=by
 have ar:(Γ.take n).Sublist Γ:=List.take_sublist n Γ
 have hf:((Γ.take n).flatMap Ob.bN).Sublist (Γ.flatMap Ob.bN):=by
  have e:Γ.flatMap Ob.bN=(Γ.take n).flatMap Ob.bN++(Γ.drop n).flatMap Ob.bN:=by rw [←List.flatMap_append,List.take_append_drop]
  rw [e];exact List.sublist_append_left _ _
 exact⟨S.bF,S.sub,S.ok,S.nx,S.old,fun x hx=>S.eG x (ar.subset hx),hf.nodup S.nd,fun b hb=>S.own b (hf.subset hb)⟩
theorem eP {ss:List Nat}{vs:List Value}(l:List Value) (hs:dW ss vs=true) (e:vs.flatMap cellsOf=l) (K:R (.agg ⟨l⟩) h):WP (.eo ss) vs h R:=(Md hs).2 (by rw [e];exact K)
theorem Sep.cut {α:Type}{rep:iO α}{ty:TypeId}{sz:Nat}{v:Value}{ls:List (List Value)}{l:List α}{i j:Nat}{k1 k2:IntKind}{vs:List Value}(S:Sep c g h (.sl ty sz v ls::Γ)) (A:ah (rep g) ls l) (h1:i≤j) (h2:j≤l.length) (lo hi:Bool) (hl:lo=false→i=0) (hh:hi=false→j=l.length)
 (hv:vs=(if lo then [.int k1 (i:Int)]else [])++(if hi then [.int k2 (j:Int)]else [])) (K:∀v' vn,Sep c g h (.sl ty sz v' vn::Γ)→ah (rep g) vn ((l.take j).drop i)→R v' h):WP (.slice sz lo hi false) (v::vs) h R:=by
 have H:eZ h ty sz v ls:=S.eG _ List.mem_cons_self
 obtain⟨v',h5,h6,h7⟩:=H.cut (k1:=k1) (k2:=k2) h1 (by rw [A.1];exact h2) lo hi hl (fun e=>(hh e).trans A.1.symm) hv
 refine h7 R (K v' _ ?_ ((A.take j).drop i))
 refine S.change _ S.ok (Nat.le_refl _) (fun _ _ _=>rfl) h5 xf (fun b hb=> ?_)
 have cG:b∈fa v:=by have kr:b∈fa v':=hb;rwa [h6]at kr
 exact⟨H.lt S.ok b cG,.inr cG⟩
theorem Sep.aoB {α:Type}{rep:iO α}{ty:TypeId}{sz:Nat}{v:Value}{ls:List (List Value)}{l m:List α}{a:Int}{k1:IntKind}(S:Sep c g h (.sl ty sz v ls::Γ)) (A:ah (rep g) ls l) (hx:GA l a (l.length:Int)=some m) (K:∀v' vn,Sep c g h (.sl ty sz v' vn::Γ)→ah (rep g) vn m→R v' h):WP (.slice sz true false false) [v,.int k1 a] h R:=by
 obtain⟨i,j,rfl,e,h1,h2,rfl⟩:=aoz hx
 exact S.cut (k2:=.i64) A h1 h2 true false (by simp) (fun _=>by omega) rfl K
end
end
end Go.Ve
namespace Go.Ve
open Go.RowKit
open Classical
noncomputable section
inductive Fl where
 | go
 | ret
 | ex (n:Nat)
def Fl.pd:Fl→Option Code
 | .go=>none
 | .ret=>some .ret
 | .ex n=>some (.exit n)
def Fl.st:Fl→LoopState
 | .go=>.ready
 | _=>.done
def Fl.on:Fl→Bool
 | .go=>true
 | _=>false
def GB {ρ:Type}(f:Fl) (N Rt:Option ρ) (X:Nat→Option ρ):Option ρ:=match f with
 | .go=>N
 | .ret=>Rt
 | .ex n=>X n
theorem aoC {ρ:Type}{N Rt:Option ρ}{X:Nat→Option ρ}{r:ρ}(h:GB .go N Rt X=some r):N=some r:=h
theorem aoD {ρ:Type}{N Rt:Option ρ}{X:Nat→Option ρ}{r:ρ}(h:GB .ret N Rt X=some r):Rt=some r:=h
theorem aeA {N Rt:W}{X:List (Nat×W)}{h:AH}(H:N h):yF Fl.go.pd N Rt X h:=H
theorem aoE {N Rt:W}{X:List (Nat×W)}{h:AH}(H:Rt h):yF Fl.ret.pd N Rt X h:=H
def qB {α σ:Type}(b:σ→α→Option (σ×Fl)):List α→σ→Option (σ×Fl)
 | [],s=>some (s,.go)
 | x::l,s=>(b s x).bind fun q=>match q.2 with
  | .go=>qB b l q.1
  | f=>some (q.1,f)
def z7 {α:Type}(P:Program) (w0:World) (g:AH) (fv:Value) (c:α→List Value) (l:List α):Prop :=
 fR fv=true∧∃id first cr,fv= .func (.func id) ⟨first⟩ ⟨cr⟩∧∀(yv:Value) (Inv:Nat→AH→AH→Prop) (Stop:AH→Prop) (Q:CR→AH→Prop) (g1 h:AH),Sub g g1→
  (∀i g h g' h',Inv i g h→Sep ⟨g,h,[]⟩ g' h' []→Inv i g' h')→(∀i g h,Inv i g h→Sub g h∧h.Ok)→
  (∀i x g h (E K:Value→W),l[i]? =some x→Inv i g h→(∀g' h',Sub g g'→Inv (i+1) g' h'→K (.bool true) h')→(∀h',Stop h'→K (.bool false) h')→dy P w0 (yv::c x) E K h)→
  Inv 0 g1 h→(∀v g' h',Sub g1 g'→Inv l.length g' h'→Q (.ret v) h')→(∀v h',Stop h'→Q (.ret v) h')→WF P w0 id (first++(yv::cr)) h Q
theorem z7.mono {α:Type}{P:Program}{w0:World}{g g':AH}{fv:Value}{c:α→List Value}{l:List α}(H:z7 P w0 g fv c l) (S:Sub g g'):z7 P w0 g' fv c l:=by
 obtain⟨h0,id,first,cr,h1,h2⟩:=H
 exact⟨h0,id,first,cr,h1,fun yv Inv Stop Q g1 h s=>h2 yv Inv Stop Q g1 h (S.trans s)⟩
section
variable {c:Cx}{g h g' h':AH}{Γ:List Ob}{R:Value→W}
theorem Sep.M3 {n:Nat}{lo:LO}{st:LoopState}{pd:Option Code}(S:Sep c g h (.lp n lo st pd::Γ)) (CT:LoopState) (wX:Option Code):Sep c g (h.nT n (lo CT wX)) (.lp n lo CT wX::Γ):=by
 have H:h.ob.get n=some (lo st pd):=S.eG _ List.mem_cons_self
 have hn:=AH.lt_of_get S.ok H
 refine S.change _ (AH.L6 S.ok hn _) (Nat.le_refl _) (fun f _ hf=> ?_) ?_ (by simp [Ob.bN]) (fun b hb=>by simp [Ob.bN]at hb;subst hb;exact⟨hn,.inr (by simp [Ob.bN])⟩)
 · rw [AH.uX,if_neg (by simpa [Ob.bN]using hf)]
 · show(h.nT n (lo CT wX)).ob.get n=_
   rw [AH.uX,if_pos rfl]
theorem Sep.yE {n:Nat}{lo:LO}{st:LoopState}{pd:Option Code}{K:W}(S:Sep c g h (.lp n lo st pd::Γ)) (k:K h):yE lo n K h:=⟨⟨st,pd,S.eG _ List.mem_cons_self⟩,k⟩
theorem Sep.qM {n:Nat}{lo:LO}{pd:Option Code}{K:W}(S:Sep c g h (.lp n lo .ready pd::Γ)) (k:∀h',Sep c g h' (.lp n lo .busy pd::Γ)→K h'):qM lo n K h:=⟨pd,S.eG _ List.mem_cons_self,k _ (S.M3 _ _)⟩
theorem Sep.mI {n:Nat}{lo:LO}{st CT:LoopState}{pd wX:Option Code}{b:Bool}(S:Sep c g h (.lp n lo st pd::Γ)) (k:∀h',Sep c g h' (.lp n lo CT wX::Γ)→R (.bool b) h'):mI lo n CT wX b R h:=⟨⟨st,pd,S.eG _ List.mem_cons_self⟩,k _ (S.M3 _ _)⟩
theorem Sep.nB {K:W}:∀{d:List Nat}{h:AH},Sep c g h (.ds d::Γ)→(∀h',Sep c g h' Γ→K h')→Go.Ve.nB d K h
 | [],h,S,k=>k h S.drop
 | r::d,h,S,k=>by
  have H:∀x∈r::d,h.ob.get x=some (.defs false):=S.eG _ List.mem_cons_self
  have hr:=H r List.mem_cons_self
  have hn:=AH.lt_of_get S.ok hr
  have nd:(r::d).Nodup:=by have:=S.nd;rw [List.flatMap_cons]at this;exact(List.nodup_append.1 this).1
  refine⟨hr,Sep.nB (d:=d) (S.change _ (AH.L6 S.ok hn _) (Nat.le_refl _) (fun f _ hf=> ?_) (fun x hx=> ?_) (List.nodup_cons.1 nd).2 (fun b hb=> ?_)) k⟩
  · rw [AH.uX,if_neg (fun e=>hf (by subst e;exact List.mem_cons_self))]
  · rw [AH.uX,if_neg (fun e=>by subst e;exact(List.nodup_cons.1 nd).1 hx)];exact H x (List.mem_cons_of_mem _ hx)
  · have cG:b∈d:=hb
    exact⟨AH.lt_of_get S.ok (H b (List.mem_cons_of_mem _ cG)),.inr (List.mem_cons_of_mem _ cG)⟩
theorem Sep.aeB (S:Sep c g h Γ):Sep c g h (.ds []::Γ):=S.add _ S.ok (Nat.le_refl _) (fun _ _=>rfl) (fun r hr=>by simp at hr) (by simp [Ob.bN]) (fun b hb=>by simp [Ob.bN]at hb)
theorem aeC {α σ:Type}{P:Program}{w0:World}{fv:Value}{ca:α→List Value}{l:List α}{d:List Nat}{B:LO→Nat→List Value→(Value→W)→W}{E:Nat→Value→W}{K:Nat→Option Code→W}(bM:σ→α→Option (σ×Fl)) (D:σ→AH→AH→List Ob→Prop){s0:σ}{r:σ×Fl}
 (It:z7 P w0 g fv ca l)
 (hD:∀s g h Γ g' h',D s g h Γ→Sub g g'→D s g' h' Γ)
 (S:Sep c g h (.ds d::Γ)) (D0:D s0 g h Γ) (M:qB bM l s0=some r)
 (body:∀(lo:LO) (n q:Nat) (s:σ) (x:α) (s':σ) (f:Fl) (R:Value→W) (g2 h2:AH) (Γ2:List Ob),Sub g g2→Sep c g2 h2 (.lp n lo .ready none:: .ds (q::d)::Γ2)→D s g2 h2 Γ2→bM s x=some (s',f)→
  (∀g3 h3 Γ3,Sub g2 g3→Sep c g3 h3 (.lp n lo f.st f.pd:: .ds (q::d)::Γ3)→D s' g3 h3 Γ3→R (.bool f.on) h3)→B lo n (ca x) R h2)
 (fin:∀(q:Nat) (g2 h2:AH) (Γ2:List Ob),Sub g g2→Sep c g2 h2 (.ds (q::d)::Γ2)→D r.1 g2 h2 Γ2→K q r.2.pd h2):D7 P w0 fv B E K h:=by
 obtain⟨_,id,first,cr,rfl,It⟩:=It
 show Uy P w0 id first cr B (E h.nx) (K h.nx) (h.ff (.defs false))
 intro lo hB
 have S1:Sep c g (h.ff (.defs false)) (.ds (h.nx::d)::Γ):=by
  have H:∀x∈d,h.ob.get x=some (.defs false):=S.eG _ List.mem_cons_self
  have nd:d.Nodup:=by have:=S.nd;rw [List.flatMap_cons]at this;exact(List.nodup_append.1 this).1
  refine S.change _ (AH.Cj S.ok _) (Nat.le_succ _) (fun f hf _=>(dT.ff h _).get f hf) (fun x hx=> ?_) ?_ (fun b hb=> ?_)
  · rcases List.mem_cons.1 hx with rfl | hx
    · rw [AH.sU,if_pos rfl]
    · have:=AH.lt_of_get S.ok (H x hx)
      rw [AH.sU,if_neg (by omega)];exact H x hx
  · exact List.nodup_cons.2 ⟨fun hm=>by have:=AH.lt_of_get S.ok (H _ hm);omega,nd⟩
  · rcases List.mem_cons.1 hb with rfl | hb
    · exact⟨Nat.lt_succ_self _,.inl (Nat.le_refl _)⟩
    · exact⟨Nat.lt_succ_of_lt (AH.lt_of_get S.ok (H b hb)),.inr hb⟩
 have S2:Sep c g ((h.ff (.defs false)).ff (lo .ready none)) (.lp (h.ff (.defs false)).nx lo .ready none:: .ds (h.nx::d)::Γ):=by
  refine S1.add _ (AH.Cj S1.ok _) (Nat.le_succ _) (dT.ff _ _).get ?_ (by simp [Ob.bN]) (fun b hb=>by simp [Ob.bN]at hb;subst hb;exact⟨Nat.lt_succ_self _,Nat.le_refl _⟩)
  show((h.ff (.defs false)).ff (lo .ready none)).ob.get _=_
  rw [AH.sU,if_pos rfl]
 have D2:D s0 g ((h.ff (.defs false)).ff (lo .ready none)) Γ:=hD s0 g h Γ g _ D0 (.refl g)
 generalize hn:(h.ff (.defs false)).nx=n at *
 generalize (h.ff (.defs false)).ff (lo .ready none)=h2 at *
 refine It _ (fun i g2 hh=>∃s Γ2,Sub g g2∧Sep c g2 hh (.lp n lo .ready none:: .ds (h.nx::d)::Γ2)∧D s g2 hh Γ2∧qB bM (l.drop i) s=some r)
  (fun hh=>∃g2 Γ2,Sub g g2∧Sep c g2 hh (.lp n lo r.2.st r.2.pd:: .ds (h.nx::d)::Γ2)∧D r.1 g2 hh Γ2) _ g h2 (.refl g) ?_ ?_ ?_ ⟨s0,Γ,.refl _,S2,D2,by rw [List.drop_zero];exact M⟩ ?_ ?_
 · rintro i g2 ha g3 hb ⟨s,Γ2,h1,h3,h4,h5⟩ S'
   exact⟨s,Γ2,h1.trans S'.bF,h3.call S',hD s g2 ha Γ2 g3 hb h4 S'.bF,h5⟩
 · rintro i g2 ha ⟨s,Γ2,h1,h3,h4,h5⟩
   exact⟨h3.sub,h3.ok⟩
 · rintro i x g2 ha E K' hx ⟨s,Γ2,h1,h3,h4,h5⟩ kt kf
   have hi:i<l.length:=(List.getElem?_eq_some_iff.1 hx).1
   have hd:l.drop i=x::l.drop (i+1):=by
    rw [List.drop_eq_getElem_cons hi];congr 1;rw [List.getElem?_eq_getElem hi]at hx;exact Option.some.inj hx
   rw [hd]at h5
   unfold qB at h5
   obtain⟨⟨s',f⟩,h6,h7⟩:=bind_some h5
   refine WR.mono (fun rr hh hr=> ?_) (hB n (ca x) K' ha (body lo n h.nx s x s' f K' g2 ha Γ2 h1 h3 h4 h6 fun g3 EF Γ3 a1 a2 a3=> ?_))
   · cases rr with
     | ret v=>exact hr
     | aT v=>exact hr.elim
   · cases f with
     | go=>exact kt g3 _ a1 ⟨s',Γ3,h1.trans a1,a2,a3,h7⟩
     | ret=>cases h7;exact kf _ ⟨g3,Γ3,h1.trans a1,a2,a3⟩
     | ex m=>cases h7;exact kf _ ⟨g3,Γ3,h1.trans a1,a2,a3⟩
 · rintro v g2 hh sg ⟨s,Γ2,h1,h3,h4,h5⟩
   rw [List.drop_length]at h5
   cases h5
   refine⟨.ready,none,h3.eG _ List.mem_cons_self,rfl, ?_⟩
   exact fin h.nx g2 _ Γ2 h1 (h3.M3 .exhausted none).drop (hD _ g2 hh Γ2 g2 _ h4 (.refl _))
 · rintro v hh ⟨g2,Γ2,h1,h3,h4⟩
   refine⟨r.2.st,r.2.pd,h3.eG _ List.mem_cons_self,by cases r.2<;>rfl, ?_⟩
   exact fin h.nx g2 _ Γ2 h1 (h3.M3 .exhausted r.2.pd).drop (hD _ g2 hh Γ2 g2 _ h4 (.refl _))
end
end
end Go.Ve
namespace Go.Ve
open Go.RowKit
section
variable {c:Cx}{g h g' h':AH}{Γ:List Ob}{o:Ob}
theorem Sep.f1 {a0 a1:Ob}(S:Sep c g h (a0::a1::Γ)):Sep c g h (a1::a0::Γ):=S.front 1 rfl rfl
theorem Sep.f2 {a0 a1 a2:Ob}(S:Sep c g h (a0::a1::a2::Γ)):Sep c g h (a2::a0::a1::Γ):=S.front 2 rfl rfl
theorem Sep.f3 {a0 a1 a2 a3:Ob}(S:Sep c g h (a0::a1::a2::a3::Γ)):Sep c g h (a3::a0::a1::a2::Γ):=S.front 3 rfl rfl
theorem Sep.f4 {a0 a1 a2 a3 a4:Ob}(S:Sep c g h (a0::a1::a2::a3::a4::Γ)):Sep c g h (a4::a0::a1::a2::a3::Γ):=S.front 4 rfl rfl
theorem Sep.f5 {a0 a1 a2 a3 a4 a5:Ob}(S:Sep c g h (a0::a1::a2::a3::a4::a5::Γ)):Sep c g h (a5::a0::a1::a2::a3::a4::Γ):=S.front 5 rfl rfl
theorem Sep.f6 {a0 a1 a2 a3 a4 a5 a6:Ob}(S:Sep c g h (a0::a1::a2::a3::a4::a5::a6::Γ)):Sep c g h (a6::a0::a1::a2::a3::a4::a5::Γ):=S.front 6 rfl rfl
theorem Sep.f7 {a0 a1 a2 a3 a4 a5 a6 a7:Ob}(S:Sep c g h (a0::a1::a2::a3::a4::a5::a6::a7::Γ)):Sep c g h (a7::a0::a1::a2::a3::a4::a5::a6::Γ):=S.front 7 rfl rfl
theorem Sep.f8 {a0 a1 a2 a3 a4 a5 a6 a7 a8:Ob}(S:Sep c g h (a0::a1::a2::a3::a4::a5::a6::a7::a8::Γ)):Sep c g h (a8::a0::a1::a2::a3::a4::a5::a6::a7::Γ):=S.front 8 rfl rfl
theorem Sep.f9 {a0 a1 a2 a3 a4 a5 a6 a7 a8 a9:Ob}(S:Sep c g h (a0::a1::a2::a3::a4::a5::a6::a7::a8::a9::Γ)):Sep c g h (a9::a0::a1::a2::a3::a4::a5::a6::a7::a8::Γ):=S.front 9 rfl rfl
theorem Sep.f10 {a0 a1 a2 a3 a4 a5 a6 a7 a8 a9 a10:Ob}(S:Sep c g h (a0::a1::a2::a3::a4::a5::a6::a7::a8::a9::a10::Γ)):Sep c g h (a10::a0::a1::a2::a3::a4::a5::a6::a7::a8::a9::Γ):=S.front 10 rfl rfl
theorem Sep.t0 (S:Sep c g h Γ):Sep c g h []:=S.bH
theorem Sep.t1 {a0:Ob}(S:Sep c g h (a0::Γ)):Sep c g h [a0]:=S.take 1
theorem Sep.t2 {a0 a1:Ob}(S:Sep c g h (a0::a1::Γ)):Sep c g h [a0,a1]:=S.take 2
theorem Sep.t3 {a0 a1 a2:Ob}(S:Sep c g h (a0::a1::a2::Γ)):Sep c g h [a0,a1,a2]:=S.take 3
theorem Sep.t5 {a0 a1 a2 a3 a4:Ob}(S:Sep c g h (a0::a1::a2::a3::a4::Γ)):Sep c g h [a0,a1,a2,a3,a4]:=S.take 5
theorem Sep.t8 {a0 a1 a2 a3 a4 a5 a6 a7:Ob}(S:Sep c g h (a0::a1::a2::a3::a4::a5::a6::a7::Γ)):Sep c g h [a0,a1,a2,a3,a4,a5,a6,a7]:=S.take 8
theorem Sep.t10 {a0 a1 a2 a3 a4 a5 a6 a7 a8 a9:Ob}(S:Sep c g h (a0::a1::a2::a3::a4::a5::a6::a7::a8::a9::Γ)):Sep c g h [a0,a1,a2,a3,a4,a5,a6,a7,a8,a9]:=S.take 10
theorem Sep.pD (S:Sep c g h Γ) (S1:Sep ⟨g,h,[]⟩ g' h' []):Sep c g' h' Γ:=S.call S1
theorem Sep.VF (S:Sep c g h Γ) (S1:Sep ⟨g,h,[]⟩ g' h' [o]):Sep c g' h' (o::Γ):=S.call S1
theorem Sep.MX {o2:Ob}(S:Sep c g h (o::Γ)) (S1:Sep ⟨g,h,o.bN⟩ g' h' [o2]):Sep c g' h' (o2::Γ):=S.aoj S1
end
end Go.Ve
namespace Go.Ve
open Go.RowKit
open Classical
noncomputable section
def eA (l:List Int):Prop:=l.Pairwise (· < ·)
def k9 (x:Int):List Int→List Int
 | []=>[x]
 | y::l=>bif decide (x<y)then x::y::l else bif decide (x=y)then y::l else y::k9 x l
theorem Gx {x z:Int}:∀{l:List Int},z∈k9 x l↔z=x∨z∈l
 | []=>by simp [k9]
 | y::l=>by
  unfold k9
  by_cases h1:x<y
  · rw [decide_eq_true h1];simp
  · rw [decide_eq_false h1]
    by_cases h2:x=y
    · rw [decide_eq_true h2];subst h2;simp
    · rw [decide_eq_false h2]
      show z∈y::k9 x l↔_
      rw [List.mem_cons,Gx,List.mem_cons]
      constructor
      · rintro(h | h | h)<;>simp [h]
      · rintro(h | h | h)<;>simp [h]
theorem Gy {x:Int}:∀{l:List Int},eA l→eA (k9 x l)
 | [],_=>by simp [k9,eA]
 | y::l,h=>by
  have h':=List.pairwise_cons.1 h
  unfold k9
  by_cases h1:x<y
  · rw [decide_eq_true h1]
    exact List.pairwise_cons.2 ⟨fun z hz=>by
     rcases List.mem_cons.1 hz with rfl | hz
     · exact h1
     · exact Int.lt_trans h1 (h'.1 z hz),h⟩
  · rw [decide_eq_false h1]
    by_cases h2:x=y
    · rw [decide_eq_true h2];exact h
    · rw [decide_eq_false h2]
      exact List.pairwise_cons.2 ⟨fun z hz=>by
       rcases Gx.1 hz with rfl | hz
       · omega
       · exact h'.1 z hz,Gy h'.2⟩
theorem eA.nd {l:List Int}(h:eA l):l.Nodup:=h.imp fun h=>by omega
theorem eA.ext:∀{l m:List Int},eA l→eA m→(∀x,x∈l↔x∈m)→l=m
 | [],[],_,_,_=>rfl
 | [],y::m,_,_,h=>absurd ((h y).2 List.mem_cons_self) (by simp)
 | x::l,[],_,_,h=>absurd ((h x).1 List.mem_cons_self) (by simp)
 | x::l,y::m,hl,hm,h=>by
  have iM:=List.pairwise_cons.1 hl
  have qb:=List.pairwise_cons.1 hm
  have e:x=y:=by
   rcases List.mem_cons.1 ((h x).1 List.mem_cons_self)with e | hx
   · exact e
   · rcases List.mem_cons.1 ((h y).2 List.mem_cons_self)with e | hy
     · exact e.symm
     · have:=qb.1 x hx;have:=iM.1 y hy;omega
  subst e
  refine congrArg (x:: ·) (eA.ext iM.2 qb.2 fun z=>⟨fun hz=> ?_,fun hz=> ?_⟩)
  · rcases List.mem_cons.1 ((h z).1 (List.mem_cons_of_mem _ hz))with rfl | oi
    · have:=iM.1 z hz;omega
    · exact oi
  · rcases List.mem_cons.1 ((h z).2 (List.mem_cons_of_mem _ hz))with rfl | oi
    · have:=qb.1 z hz;omega
    · exact oi
theorem aol {x:Int}{l:List Int}(h:eA l) (hx:x∈l):k9 x l=l:=eA.ext (Gy h) h fun z=>by
 rw [Gx];exact⟨fun hz=>hz.elim (fun e=>e▸hx) id,.inr⟩
theorem aeg {l m:List Int}(hl:l.Nodup) (hm:m.Nodup) (h:∀x,x∈l↔x∈m):l.Perm m:=(List.perm_ext_iff_of_nodup hl hm).2 h
theorem aom {x:Int}{l:List Int}(h:eA l) (hx:x∉l):(k9 x l).Perm (x::l):=aeg (Gy h).nd (List.nodup_cons.2 ⟨hx,h.nd⟩) fun z=>by rw [Gx,List.mem_cons]
def fS (xs l:List Int):List Int:=xs.foldl (fun l x=>k9 x l) l
theorem pG {z:Int}:∀{xs l:List Int},z∈fS xs l↔z∈xs∨z∈l
 | [],l=>by simp [fS]
 | x::xs,l=>by
  show z∈fS xs (k9 x l)↔_
  rw [pG,Gx,List.mem_cons]
  constructor
  · rintro(h | h | h)<;>simp [h]
  · rintro((h | h) | h)<;>simp [h]
theorem ry:∀{xs l:List Int},eA l→eA (fS xs l)
 | [],_,h=>h
 | _::xs,_,h=>ry (xs:=xs) (Gy h)
theorem aeh {xs ys l:List Int}(h:eA l) (p:∀x,x∈xs↔x∈ys):fS xs l=fS ys l:=eA.ext (ry h) (ry h) fun z=>by rw [pG,pG,p]
structure lJ (es:List (Value×Value×Nat)) (cl:Nat) (l:List Int):Prop where
 ks:∃ks:List Int,ks.Perm l∧es.map (fun e=>(e.1,e.2.1))=ks.map fun k=>(vi k,Value.bool true)
 nV:eA l
 st:(es.map fun e=>e.2.2).Nodup
 lt:∀e∈es,e.2.2<cl
theorem lJ.nil:lJ [] 0 []:=⟨⟨[],.refl _,rfl⟩,.nil,.nil,fun e h=>by simp at h⟩
theorem lJ.len {es:List (Value×Value×Nat)}{cl:Nat}{l:List Int}(H:lJ es cl l):es.length=l.length:=by
 obtain⟨ks,h1,h2⟩:=H.ks
 rw [←h1.length_eq]
 simpa using congrArg List.length h2
theorem aon (x y:Int):nL 0 (vi x) (vi y)=some (decide (x=y)):=by
 rw [←FQ];rfl
theorem aei {x:Int}:∀{es:List (Value×Value×Nat)}{ks:List Int}{cl:Nat},es.map (fun e=>(e.1,e.2.1))=ks.map (fun k=>(vi k,Value.bool true))→
 (x∈ks→∀k,pY 0 es (vi x) (.bool true) cl k=k es cl)∧(x∉ks→∀k,pY 0 es (vi x) (.bool true) cl k=k (es++[(vi x,.bool true,cl)]) (cl+1))
 | [],[],cl,_=>⟨fun h=>by simp at h,fun _ k=>by show fN (Nat.succ cl) _=_;rw [cz];rfl⟩
 | [],_::_,_,h=>by simp at h
 | _::_,[],_,h=>by simp at h
 | (a,v,n)::es,b::ks,cl,h=>by
  simp only [List.map_cons,List.cons.injEq,Prod.mk.injEq]at h
  obtain⟨⟨rfl,rfl⟩,ht⟩:=h
  have he:∀k,pY 0 ((vi b,.bool true,n)::es) (vi x) (.bool true) cl k=bif decide (x=b)then k ((vi x,.bool true,n)::es) cl else pY 0 es (vi x) (.bool true) cl (fun dz kI=>k ((vi b,.bool true,n)::dz) kI):=fun k=>by
   show(match nL 0 (vi x) (vi b)with | some true=>k ((vi x,.bool true,n)::es) cl | some false=>pY 0 es (vi x) (.bool true) cl (fun dz kI=>k ((vi b,.bool true,n)::dz) kI) | none=>false)=_
   rw [aon]
   cases decide (x=b)<;>rfl
  obtain⟨h1,h2⟩:=aei (x:=x) (cl:=cl) ht
  by_cases hx:x=b
  · subst hx
    refine⟨fun _ k=>by rw [he,decide_eq_true rfl];rfl,fun hn=>absurd List.mem_cons_self hn⟩
  · refine⟨fun hm k=> ?_,fun hn k=> ?_⟩
    · rw [he,decide_eq_false hx];exact h1 ((List.mem_cons.1 hm).resolve_left hx) _
    · rw [he,decide_eq_false hx];exact h2 (fun h=>hn (List.mem_cons_of_mem _ h)) _
theorem lJ.kE {es:List (Value×Value×Nat)}{cl:Nat}{l:List Int}(H:lJ es cl l) (x:Int):∃dz kI,lJ dz kI (k9 x l)∧∀k,pY 0 es (vi x) (.bool true) cl k=k dz kI:=by
 obtain⟨ks,h1,h2⟩:=H.ks
 obtain⟨u1,u2⟩:=aei (x:=x) (cl:=cl) h2
 by_cases hx:x∈ks
 · refine⟨es,cl, ?_,u1 hx⟩
   rw [aol H.nV (h1.mem_iff.1 hx)]
   exact H
 · refine⟨_,_,⟨⟨ks++[x], ?_,by simp [h2]⟩,Gy H.nV, ?_,fun e he=> ?_⟩,u2 hx⟩
   · exact(List.perm_append_comm.trans (List.Perm.cons x h1)).trans (aom H.nV fun h=>hx (h1.mem_iff.2 h)).symm
   · rw [List.map_append]
     refine List.nodup_append.2 ⟨H.st,by simp,fun a ha b hb=> ?_⟩
     obtain⟨e,he,rfl⟩:=List.mem_map.1 ha
     simp at hb
     have:=H.lt e he
     omega
   · rcases List.mem_append.1 he with he | he
     · have:=H.lt e he;omega
     · simp at he;subst he;exact Nat.lt_succ_self _
def jZ (g:AH) (v:Value) (l:List Int):Prop:=(v= .map none∧l=[])∨∃b es cl,v= .map (some b)∧g.ob.get b=some (.map es cl)∧lJ es cl l
theorem jZ.nil {g:AH}:jZ g (.map none) []:=.inl ⟨rfl,rfl⟩
theorem jZ.mono {g g':AH}{v:Value}{l:List Int}(H:jZ g v l) (S:Sub g g'):jZ g' v l:=by
 rcases H with h | ⟨b,es,cl,h1,h2,h3⟩
 · exact .inl h
 · exact .inr ⟨b,es,cl,h1,S.get _ _ h2,h3⟩
theorem jZ.one {g:AH}{v:Value}{l:List Int}(H:jZ g v l):fR v=true:=by
 rcases H with⟨rfl,_⟩ | ⟨b,es,cl,rfl,_⟩<;>rfl
theorem jZ.nV {g:AH}{v:Value}{l:List Int}(H:jZ g v l):eA l:=by
 rcases H with⟨_,rfl⟩ | ⟨b,es,cl,_,_,h⟩
 · exact .nil
 · exact h.nV
def jt:iO (List Int):=fun g vs x=>∃v,vs=[v]∧jZ g v x
theorem vk:vj jt:=fun _ _ _ _ S ⟨v,h1,h2⟩=>⟨v,h1,h2.mono S⟩
section
variable {c:Cx}{g h:AH}{Γ:List Ob}{R:Value→AH→Prop}{b cl:Nat}{es:List (Value×Value×Nat)}{l:List Int}
theorem Gz {r:Nat}(hr:h.ob.get r=some (.map es cl)) (k:List (Value×Value×Nat)→Nat→Bool):lF h r k=k es cl:=by
 unfold lF;rw [wU hr]
theorem VG {it:Nat}{m:Option Nat}{since last:Nat}{seen:List Nat}(hi:h.ob.get it=some (.gA m since seen last)) (k:Option Nat→Nat→List Nat→Nat→Bool):wE h it k=k m since seen last:=by
 unfold wE;rw [wU hi]
theorem Sep.smk (S:Sep c g h Γ) (K:∀b h',Sep c g h' (.mp b [] 0::Γ)→lJ [] 0 []→R (.map (some b)) h'):WP .mkMap [] h R :=
 amY.2 (K _ _ (S.add _ (AH.Cj S.ok _) (Nat.le_succ _) (dT.ff h _).get (by show(h.ff _).ob.get h.nx=_;rw [AH.sU,if_pos rfl]) (by simp [Ob.bN]) (fun b hb=>by simp [Ob.bN]at hb;subst hb;exact⟨Nat.lt_succ_self _,Nat.le_refl _⟩)) lJ.nil)
theorem Sep.aej {x:Int}(S:Sep c g h (.mp b es cl::Γ)) (A:lJ es cl l) (K:∀dz kI h',Sep c g h' (.mp b dz kI::Γ)→lJ dz kI (k9 x l)→R undef h'):WP (.sk 0) [.map (some b),vi x,.bool true] h R:=by
 have hb:h.ob.get b=some (.map es cl):=S.eG _ List.mem_cons_self
 have hn:=AH.lt_of_get S.ok hb
 obtain⟨dz,kI,h1,h2⟩:=A.kE x
 have key:∀k:KV,(Prim.sk 0).ev [.map (some b),vi x,.bool true] h k=k undef (h.nT b (.map dz kI)):=fun k=>by
  show iff (Ev 0 (vi x)) (lF h b fun es cl=>pY 0 es (vi x) (.bool true) cl fun es cl=>iK h b (some (.map es cl)) fun h=>k undef h)=_
  rw [Gz hb,h2,Ck];rfl
 refine(dF key).2 (K dz kI _ ?_ h1)
 refine S.change _ (AH.L6 S.ok hn _) (Nat.le_refl _) (fun f _ hf=> ?_) ?_ (by simp [Ob.bN]) (fun b' cG=>by simp [Ob.bN]at cG;subst cG;exact⟨hn,.inr (by simp [Ob.bN])⟩)
 · rw [AH.uX,if_neg (by simpa [Ob.bN]using hf)]
 · show(h.nT b (.map dz kI)).ob.get b=_
   rw [AH.uX,if_pos rfl]
theorem aoo (hb:h.ob.get b=some (.map es cl)) (A:lJ es cl l) (K:R (vi (l.length:Int)) h):WP .Bq [.map (some b)] h R:=by
 have key:∀k:KV,Prim.Bq.ev [.map (some b)] h k=k (vi (l.length:Int)) h:=fun k=>by
  show lF h b (fun es _=>fN es.length fun n=>k (.int .i64 (.ofNat n)) h)=_
  rw [Gz hb,cz,A.len];rfl
 exact(dF key).2 K
theorem Sep.aek {v:Value}(S:Sep c g h Γ) (M:jZ g v l) (K:R (vi (l.length:Int)) h):WP .Bq [v] h R:=by
 rcases M with⟨rfl,rfl⟩ | ⟨b,es,cl,rfl,h2,h3⟩
 · exact(dF (R:=R) (h:=h) (h':=h) (v:=vi 0) fun k=>by rfl).2 K
 · exact aoo (S.sub.get _ _ h2) h3 K
theorem Sep.aop (S:Sep c g h (.mp b es cl::Γ)) (A:lJ es cl l):∃g',Sub g g'∧Sep c g' h Γ∧jZ g' (.map (some b)) l:=by
 obtain⟨h1,h2,h3⟩:=S.freeze (b:=b) rfl
 exact⟨_,h1,h2,.inr ⟨b,es,cl,rfl,h3.trans (S.eG _ List.mem_cons_self),A⟩⟩
end
section
variable {c:Cx}{g h:AH}{Γ:List Ob}
theorem Sep.aoq {α:Type}{rep:iO α}{ty:TypeId}{sz:Nat}{v:Value}{ls:List (List Value)}{l:List α}(S:Sep c g h (.sl ty sz v ls::Γ)) (A:ah (rep g) ls l) (hm:vj rep) :
    ∃g',Sub g g'∧Sub g' h∧ab rep sz g' v l∧∀g2 h2,Sep ⟨g',h,[]⟩ g2 h2 []→∃g3,Sub g g3∧Sep c g3 h2 (.sl ty sz v ls::Γ)∧∀w s,jZ g2 w s→jZ g3 w s:=by
  have O:eZ h ty sz v ls:=S.eG _ List.mem_cons_self
  have key:∀{b lo hi:Nat}{cJ:TypeId}{cc:NT Value}(g':AH),fa v=[b]→h.ob.get b=some (.cells lo hi cJ true cc)→Sub g g'→Sep c g' h Γ→g'.ob.get b=h.ob.get b→
      ∀g2 h2,Sep ⟨g',h,[]⟩ g2 h2 []→∃g3,Sub g g3∧Sep c g3 h2 (.sl ty sz v ls::Γ)∧∀w s,jZ g2 w s→jZ g3 w s:=fun {b lo hi cJ cc} g' hb hg sg S1 hgb g2 h2 S2=>by
    have S3:Sep c g2 h2 Γ:=by
      have:=S1.call S2
      rwa [List.nil_append]at this
    have zX:g.ob.get b=none:=(S.own b (by rw [List.flatMap_cons];exact List.mem_append_left _ (show b∈fa v by rw [hb];simp))).2.1
    have h2b:g2.ob.get b=some (.cells lo hi cJ true cc):=S2.bF.get _ _ (hgb.trans hg)
    have kg:∀f,(g2.kill b).ob.get f=if f=b then none else g2.ob.get f:=AH.L9 g2 b
    have rz:Sub g g2:=sg.trans S2.bF
    have s3:Sub g (g2.kill b):=⟨rz.nx,fun f x hx=>by
      rw [kg,if_neg (fun e=>by subst e;rw [zX]at hx;cases hx)]
      exact rz.get f x hx⟩
    refine⟨g2.kill b,s3,⟨S.bF.trans s3,⟨S3.sub.nx,fun f x hx=> ?_⟩,S3.ok,S3.nx,fun f h1 h2=>⟨(S3.old f h1 h2).1,fun hn=> ?_⟩,fun o ho=> ?_,S.nd,fun b' cG=>⟨Nat.lt_of_lt_of_le (S.own b' cG).1 S2.nx, ?_,(S.own b' cG).2.2⟩⟩,fun w s hM=> ?_⟩
    · rw [kg]at hx
      split at hx
      · cases hx
      · exact S3.sub.get f x hx
    · rw [kg]
      split
      · rfl
      · exact(S3.old f h1 h2).2 hn
    · rcases List.mem_cons.1 ho with rfl | ho
      · exact eZ.CP O fun b' cG=>by
          rw [hb]at cG
          obtain rfl:=List.mem_singleton.1 cG
          rw [hg];exact S3.sub.get _ _ h2b
      · exact S3.eG o ho
    · rw [kg]
      split
      · rfl
      · rename_i dr
        rw [List.flatMap_cons]at cG
        rcases List.mem_append.1 cG with h3 | h3
        · have h3:b'∈fa v:=h3
          rw [hb]at h3
          exact absurd (List.mem_singleton.1 h3) dr
        · exact(S3.own b' h3).2.1
    · rcases hM with hM | ⟨r,es,cl,e1,e2,e3⟩
      · exact .inl hM
      · refine .inr ⟨r,es,cl,e1, ?_,e3⟩
        rw [kg,if_neg (fun e=>by subst e;rw [h2b]at e2;cases e2)]
        exact e2
  cases O with
  | nil =>
    refine⟨g,.refl g,S.sub,⟨[],.nil,A⟩,fun g2 h2 S2=>⟨g2,S2.bF, ?_,fun _ _ h=>h⟩⟩
    have:=S.call S2
    rwa [List.nil_append]at this
  | un b o n lo hi cc _ hn hb hg h1 h2 hr hs =>
    obtain⟨k1,k2,k3⟩:=S.freeze (b:=b) rfl
    exact⟨_,k1,k2.sub,⟨ls,.mk b o n _ ls hn ⟨hb,.inr rfl⟩ hs (zV k3 hr),A.mono fun x y hh=>hm _ _ _ _ k1 hh⟩,key _ rfl hg k1 k2 k3⟩
  | kn b o n cap lo hi cJ cc _ hn hb hc hg h1 h2 hr hs =>
    obtain⟨k1,k2,k3⟩:=S.freeze (b:=b) rfl
    exact⟨_,k1,k2.sub,⟨ls,.mk b o n cap ls hn ⟨by omega,.inl ⟨hb,hc⟩⟩ hs (zV k3 hr),A.mono fun x y hh=>hm _ _ _ _ k1 hh⟩,key _ rfl hg k1 k2 k3⟩
end
theorem ael:∀(l:List Nat) (n:Nat) (k:List Nat→Bool),Fm l n k=k (l++[n])
 | [],_,_=>rfl
 | x::l,n,k=>ael l n fun l'=>k (x::l')
theorem VH {since:Nat}{seen:List Nat}:∀{es:List (Value×Value×Nat)}{k:List (Value×Value×Nat)→Bool},(∀e∈es,e.2.2<since)→uL es since seen k=k (es.filter fun e=> !decide (e.2.2∈seen))
 | [],_,_=>rfl
 | e::es,k,h=>by
  have h1:Nat.ble (Nat.succ e.2.2) since=true:=Nat.ble_eq_true_of_le (h e List.mem_cons_self)
  have h2:sH seen e.2.2=decide (e.2.2∈seen):=by rw [TV];simp
  show iff (Nat.ble (Nat.succ e.2.2) since) (bif sH seen e.2.2 then uL es since seen k else uL es since seen fun l=>k (e::l))=_
  rw [h1,h2]
  by_cases hm:e.2.2∈seen
  · rw [decide_eq_true hm,List.filter_cons,decide_eq_true hm]
    exact VH fun e he=>h e (List.mem_cons_of_mem _ he)
  · rw [decide_eq_false hm,List.filter_cons,decide_eq_false hm]
    exact VH fun e he=>h e (List.mem_cons_of_mem _ he)
theorem aem {go:Value→Value→Nat→Bool}:∀{l:List (Value×Value×Nat)},(∀e∈l,go e.1 e.2.1 e.2.2=true)→wF go l=true
 | [],_=>rfl
 | [(a,v,n)],h=>h (a,v,n) List.mem_cons_self
 | (a,v,n)::e::l,h=>by
  show iff (go a v n) (wF go (e::l))=true
  rw [iff_eq]
  exact⟨h (a,v,n) List.mem_cons_self,aem fun e he=>h e (List.mem_cons_of_mem _ he)⟩
theorem aen:∀(l:List Nat) (n:Nat) (k:Nat→Bool),zn (l++[n]) k=k n
 | [],_,_=>rfl
 | [x],_,_=>rfl
 | x::y::l,n,k=>aen (y::l) n k
theorem aeo {a v:Value}{n:Nat}{k:Value→Value→Bool}:∀{es:List (Value×Value×Nat)},(a,v,n)∈es→(es.map fun e=>e.2.2).Nodup→wG es n k=k a v
  | (a',v',n')::es,hm,nd=>by
    have pF:=List.nodup_cons.1 nd
    show(bif Nat.beq n' n then k a' v' else wG es n k)=_
    rcases List.mem_cons.1 hm with e | hm
    · cases e
      rw [Nat.beq_refl];rfl
    · have:Nat.beq n' n=false:=by
        cases hb:Nat.beq n' n with
        | false=>rfl
        | true =>
          have e:=Nat.eq_of_beq_eq_true hb
          subst e
          exact absurd (List.mem_map.2 ⟨_,hm,rfl⟩) pF.1
      rw [this]
      exact aeo hm pF.2
section
variable {h:AH}{R:Value→AH→Prop}{it r cl:Nat}{es:List (Value×Value×Nat)}{seen:List Nat}
theorem aep (iA:h.ob.get it=some (.gA (some r) cl seen cl)) (hr:h.ob.get r=some (.map es cl)) (hl:∀e∈es,e.2.2<cl)
 (K1:∀e∈es,e.2.2∉seen→R (.tuple ⟨[.bool true,e.1,e.2.1]⟩) (h.nT it (.gA (some r) cl (seen++[e.2.2]) cl)))
 (K0:(∀e∈es,e.2.2∈seen)→R (.tuple ⟨[.bool false]⟩) (h.kill it)):WP (.x .yJ) [au it 0] h R:=by
 intro k hk
 show wE h it (fun m since seen last=>Option.casesOn (motive:=fun _=>Bool) m (k (.tuple ⟨[.bool false]⟩) h) fun r =>
  lF h r fun es cl=>iff (Nat.beq cl since&&Nat.beq last since) (uL es since seen (Lb h it r since seen k)))=true
 rw [VG iA]
 show lF h r (fun es kI=>iff (Nat.beq kI cl&&Nat.beq cl cl) (uL es cl seen (Lb h it r cl seen k)))=true
 rw [Gz hr,Nat.beq_refl,VH hl]
 show Lb h it r cl seen k _=true
 have hm:∀e,e∈es.filter (fun e=> !decide (e.2.2∈seen))↔e∈es∧e.2.2∉seen:=fun e=>by simp
 generalize es.filter (fun e=> !decide (e.2.2∈seen))=l at hm
 cases l with
 | nil =>
  show iK h it none (fun h=>k (.tuple ⟨[.bool false]⟩) h)=true
  rw [adl]
  exact hk _ _ (K0 fun e he=>Classical.byContradiction fun hn=>by simpa using (hm e).2 ⟨he,hn⟩)
 | cons e0 l0 =>
  show wF (La h it r cl seen k) (e0::l0)=true
  refine aem fun e he=> ?_
  obtain⟨h1,h2⟩:=(hm e).1 he
  unfold La
  rw [ael,Ck]
  exact hk _ _ (K1 e h1 h2)
theorem aor {n:Nat}{a v:Value}(iA:h.ob.get it=some (.gA (some r) cl (seen++[n]) cl)) (hr:h.ob.get r=some (.map es cl)) (he:(a,v,n)∈es) (nd:(es.map fun e=>e.2.2).Nodup) (K:R (.tuple ⟨[a,v]⟩) h) :
 WP (.x .entry) [au it 0] h R:=by
 refine(dF (R:=R) (h:=h) (h':=h) (v:=.tuple ⟨[a,v]⟩) fun k=> ?_).2 K
 show wE h it (fun m _ seen last=>Option.casesOn (motive:=fun _=>Bool) m false fun r =>
  lF h r fun es cl=>iff (Nat.beq cl last) (zn seen fun n=>wG es n fun a v=>k (.tuple ⟨[a,v]⟩) h))=_
 rw [VG iA]
 show lF h r (fun es kI=>iff (Nat.beq kI cl) (zn (seen++[n]) fun n=>wG es n fun a v=>k (.tuple ⟨[a,v]⟩) h))=_
 rw [Gz hr,Nat.beq_refl,aen,aeo he nd]
 rfl
end
def vl (e:Value×Value×Nat):Int:=match e.1 with
 | .int _ n=>n
 | _=>0
theorem lJ.keys {es:List (Value×Value×Nat)}{cl:Nat}{l:List Int}(H:lJ es cl l):(es.map vl).Perm l∧∀e∈es,e.1=vi (vl e)∧e.2.1= .bool true:=by
 obtain⟨ks,h1,h2⟩:=H.ks
 have e1:es.map vl=ks:=by
  have:(es.map (fun e=>(e.1,e.2.1))).map (fun p=>match p.1 with | .int _ n=>n | _=>(0:Int))=ks:=by
   rw [h2,List.map_map]
   exact List.map_id' ks
  rw [List.map_map]at this
  exact this
 refine⟨by rw [e1];exact h1,fun e he=> ?_⟩
 have hm:(e.1,e.2.1)∈ks.map fun k=>(vi k,Value.bool true):=by rw [←h2];exact List.mem_map.2 ⟨e,he,rfl⟩
 obtain⟨k,_,hk⟩:=List.mem_map.1 hm
 obtain⟨k1,k2⟩:=Prod.mk.inj hk
 unfold vl
 rw [←k1]
 exact⟨rfl,k2.symm⟩
theorem VI {α β:Type}{f:α→β}:∀{l:List α},(l.map f).Nodup→∀x∈l,∀y∈l,f x=f y→x=y
 | a::l,nd,x,hx,y,hy,e=>by
  have pF:=List.nodup_cons.1 nd
  rcases List.mem_cons.1 hx with h1 | hx<;>rcases List.mem_cons.1 hy with h2 | hy
  · rw [h1,h2]
  · exact absurd (List.mem_map.2 ⟨y,hy,by rw [←e,h1]⟩) pF.1
  · exact absurd (List.mem_map.2 ⟨x,hx,by rw [e,h2]⟩) pF.1
  · exact VI pF.2 x hx y hy e
theorem aeq {α:Type}{l m:List α}(hl:l.Nodup) (hm:m.Nodup) (h:∀x∈l,x∈m):(l++m.filter fun x=> !decide (x∈l)).Perm m:=by
 refine(List.perm_ext_iff_of_nodup (List.nodup_append.2 ⟨hl,hm.filter _,fun a ha b hb e=> ?_⟩) hm).2 fun x=> ?_
 · subst e;simp [ha]at hb
 · rw [List.mem_append,List.mem_filter]
   by_cases hx:x∈l
   · simp [hx,h x hx]
   · simp [hx]
theorem aos {α:Type}{l m:List α}(hl:l.Nodup) (hm:m.Nodup) (h:∀x∈l,x∈m) (hn:m.length≤l.length):l.Perm m:=by
 have p:=aeq hl hm h
 have e:=p.length_eq
 rw [List.length_append]at e
 have:(m.filter fun x=> !decide (x∈l))=[]:=List.length_eq_zero_iff.1 (by omega)
 rwa [this,List.append_nil]at p
theorem aer {α:Type}{l m:List α}(hl:l.Nodup) (hm:m.Nodup) (h:∀x∈l,x∈m):l.length≤m.length:=by
 have:=(aeq hl hm h).length_eq
 rw [List.length_append]at this
 omega
theorem VJ {α β:Type}{f:α→β}:∀{l:List α},(l.map f).Nodup→l.Nodup
 | [],_=>.nil
 | a::l,nd=>by
  have pF:=List.nodup_cons.1 nd
  exact List.nodup_cons.2 ⟨fun h=>pF.1 (List.mem_map.2 ⟨a,h,rfl⟩),VJ pF.2⟩
section
variable {c:Cx}{g h:AH}{Γ:List Ob}
theorem Sep.unit {b:Nat}{a:AO}(S:Sep c g h (.raw b a::Γ)):Sep c g (h.kill b) Γ:=by
 have hb:h.ob.get b=some a:=S.eG _ List.mem_cons_self
 refine(S.change (.ds []) (AH.adk S.ok b) (Nat.le_refl _) (fun f _ hf=> ?_) (fun r hr=>by simp at hr) (by simp [Ob.bN]) (fun b hb=>by simp [Ob.bN]at hb)).drop
 rw [AH.L9,if_neg (by simpa [Ob.bN]using hf)]
theorem Sep.aot {b:Nat}{a:AO}(S:Sep c g h (.raw b a::Γ)) (a':AO):Sep c g (h.nT b a') (.raw b a'::Γ):=by
 have hb:h.ob.get b=some a:=S.eG _ List.mem_cons_self
 have hn:=AH.lt_of_get S.ok hb
 refine S.change _ (AH.L6 S.ok hn _) (Nat.le_refl _) (fun f _ hf=> ?_) ?_ (by simp [Ob.bN]) (fun b' cG=>by simp [Ob.bN]at cG;subst cG;exact⟨hn,.inr (by simp [Ob.bN])⟩)
 · rw [AH.uX,if_neg (by simpa [Ob.bN]using hf)]
 · show(h.nT b a').ob.get b=_
   rw [AH.uX,if_pos rfl]
theorem Sep.range {α:Type}{l:List Int}{v:Value}(S:Sep c g h Γ) (M:jZ g v l){F:Value→(α→W)→α→W}{B:Value→(α→W)→α→W}{X:Value→α→W}
    (hF:∀it k a,F it k a=pr (.x .yJ) [it] fun t=>pr (.extract 0) [t] fun c=>br c (B it k a) (X it a)){a0:α}(I:List Int→α→AH→List Ob→Prop) (h0:I [] a0 g Γ)
    (step:∀(it:Value) (o:Ob) (k:α→W) (a:α) (g1 h1:AH) (Γ1:List Ob) (xs:List Int) (x:Int),I xs a g1 Γ1→Sub g g1→x∈l→x∉xs→Sep c g1 h1 (o::Γ1)→(∀R:Value→AH→Prop,R (.tuple ⟨[vi x,.bool true]⟩) h1→WP (.x .entry) [it] h1 R)→
      (∀a' g2 h2 Γ2,Sub g1 g2→Sep c g2 h2 (o::Γ2)→I (xs++[x]) a' g2 Γ2→k a' h2)→B it k a h1)
    (fin:∀it a g1 h1 Γ1 xs,Sub g g1→xs.Perm l→I xs a g1 Γ1→Sep c g1 h1 Γ1→X it a h1):WP (.x .Eb) [v] h fun it h=>LP (F it) a0 h:=by
  rcases M with⟨rfl,rfl⟩ | ⟨r,es,cl,rfl,hr,A⟩
  · refine(dF (h:=h) (h':=h.ff (.gA none 0 [] 0)) (v:=au h.nx 0) fun k=> ?_).2 ⟨1, ?_⟩
    · show mV h (.gA none 0 [] 0) (fun b h=>k (au b 0) h)=_
      rw [FW]
    · show F (au h.nx 0) (eS (F (au h.nx 0)) 0) a0 _
      rw [hF]
      have iA:(h.ff (.gA none 0 [] 0)).ob.get h.nx=some (.gA none 0 [] 0):=by rw [AH.sU,if_pos rfl]
      refine(dF (h:=h.ff (.gA none 0 [] 0)) (h':=h.ff (.gA none 0 [] 0)) (v:=.tuple ⟨[.bool false]⟩) fun k=> ?_).2 ((eY (v:=.bool false) rfl).2 (show X (au h.nx 0) a0 (h.ff (.gA none 0 [] 0))from fin _ a0 g _ Γ [] (.refl g) (.refl _) h0 (S.dq (dT.ff h _) (AH.Cj S.ok _))))
      show wE (h.ff (.gA none 0 [] 0)) h.nx _=_
      rw [VG iA]
  · have hrh:h.ob.get r=some (.map es cl):=S.sub.get _ _ hr
    have MY:=A.keys
    have knd:(es.map vl).Nodup:=MY.1.nodup_iff.2 A.nV.nd
    refine(dF (h:=h) (h':=h.ff (.gA (some r) cl [] cl)) (v:=au h.nx 0) fun k=> ?_).2 ⟨es.length+1, ?_⟩
    · show lF h r (fun _ cl=>mV h (.gA (some r) cl [] cl) fun b h=>k (au b 0) h)=_
      rw [Gz hrh,FW]
    · have S1:Sep c g (h.ff (.gA (some r) cl [] cl)) (.raw h.nx (.gA (some r) cl [] cl)::Γ) :=
        S.add _ (AH.Cj S.ok _) (Nat.le_succ _) (dT.ff h _).get (by show(h.ff _).ob.get h.nx=_;rw [AH.sU,if_pos rfl]) (by simp [Ob.bN]) (fun b hb=>by simp [Ob.bN]at hb;subst hb;exact⟨Nat.lt_succ_self _,Nat.le_refl _⟩)
      generalize h.nx=it at S1
      have key:∀(m:Nat) (pH:List (Value×Value×Nat)) (a:α) (g1 h1:AH) (Γ1:List Ob),pH.length+m=es.length→pH.Nodup→(∀e∈pH,e∈es)→Sub g g1→I (pH.map vl) a g1 Γ1→
          Sep c g1 h1 (.raw it (.gA (some r) cl (pH.map fun e=>e.2.2) cl)::Γ1)→eS (F (au it 0)) (m+1) a h1:=by
        intro m
        induction m with
        | zero =>
          intro pH a g1 h1 Γ1 hlen MZ ar sg hI S1
          show F (au it 0) _ a h1
          rw [hF]
          have vp:pH.Perm es:=aos MZ (VJ A.st) ar (by omega)
          refine aep (S1.eG _ List.mem_cons_self) (S1.sub.get _ _ (sg.get _ _ hr)) A.lt (fun e he hs=>absurd (List.mem_map.2 ⟨e,vp.mem_iff.2 he,rfl⟩) hs) fun gz=>(eY rfl).2 ?_
          exact fin _ a g1 _ Γ1 _ sg ((vp.map vl).trans MY.1) hI S1.unit
        | succ m ih =>
          intro pH a g1 h1 Γ1 hlen MZ ar sg hI S1
          show F (au it 0) _ a h1
          rw [hF]
          refine aep (S1.eG _ List.mem_cons_self) (S1.sub.get _ _ (sg.get _ _ hr)) A.lt (fun e he hs=>(eY rfl).2 ?_) fun gz=>(eY rfl).2 ?_
          · have he':=MY.2 e he
            have hnv:e∉pH:=fun h=>hs (List.mem_map.2 ⟨e,h,rfl⟩)
            have S2:=S1.aot (.gA (some r) cl ((pH.map fun e=>e.2.2)++[e.2.2]) cl)
            show B (au it 0) _ a _
            refine step _ _ _ a g1 _ Γ1 (pH.map vl) (vl e) hI sg (MY.1.mem_iff.1 (List.mem_map.2 ⟨e,he,rfl⟩)) (fun h=> ?_) S2 (fun R hR=> ?_) (fun a' g2 h2 Γ2 rz S3 hI2=> ?_)
            · obtain⟨e',he1,he2⟩:=List.mem_map.1 h
              exact hnv (VI knd e' (ar e' he1) e he he2▸he1)
            · refine aor (a:=e.1) (v:=e.2.1) (n:=e.2.2) (S2.eG _ List.mem_cons_self) (S2.sub.get _ _ (sg.get _ _ hr)) he A.st ?_
              rw [he'.1,he'.2];exact hR
            · refine ih (pH++[e]) a' g2 h2 Γ2 (by rw [List.length_append];simp;omega) ?_ ?_ (sg.trans rz) (by rw [List.map_append];exact hI2) (by rw [List.map_append];exact S3)
              · exact List.nodup_append.2 ⟨MZ,by simp,fun x hx y hy e'=>by simp at hy;subst hy;subst e';exact hnv hx⟩
              · intro x hx
                rcases List.mem_append.1 hx with hx | hx
                · exact ar x hx
                · simp at hx;subst hx;exact he
          · have hes:∀e∈es,e∈pH:=fun e he=>by
              obtain⟨e',h1,h2⟩:=List.mem_map.1 (gz e he)
              exact VI A.st e' (ar e' h1) e he h2▸h1
            have:=aer (VJ A.st) MZ hes
            omega
      exact key es.length [] a0 g _ Γ (by simp) .nil (fun e he=>by simp at he) (.refl g) h0 S1
end
end
end Go.Ve
namespace Go.Ve.T
open Go.Ve Go.Proofs
noncomputable section
set_option maxRecDepth 10000
structure aN where
 fL:List Int
 fE:Int
deriving DecidableEq
structure aq where
 aI:Int
 fA:Int
 fB:Int
 fC:Int
deriving DecidableEq
def aq.rep:iO aq:=fun g vs x=>vs=[(vi x.aI),(vi x.fA),(vi x.fB),(vi x.fC)]
theorem aq.mono:vj aq.rep:=fun _ _ _ _ _ e=>e
structure aK where
 eD:Int
 fg:Int
 eg:Int
deriving DecidableEq
def aK.rep:iO aK:=fun g vs x=>vs=[(vi x.eD),(vi x.fg),(vi x.eg)]
theorem aK.mono:vj aK.rep:=fun _ _ _ _ _ e=>e
structure ak where
 aB:ByteArray
 aC:ByteArray
 fArgs:Int
 ay:Int
 az:Int
 ae:List aq
 aM:List aK
deriving DecidableEq
def ak.rep:iO ak:=fun g vs x=>∃w1 w2:Value,vs=[(.string x.aB),(.string x.aC),(vi x.fArgs),(vi x.ay),(vi x.az),w1,w2]∧ab aq.rep 4 g w1 x.ae∧ab aK.rep 3 g w2 x.aM
structure fb where
 e0:Int
 e1:Int
 e2:Int
deriving DecidableEq
structure fH where
 e0:Int
 e1:Int
deriving DecidableEq
structure vw where
 rE:ByteArray
 eT:fb
 lb:Int
 dY:fH
 lK:Bool
 l5:Bool
deriving DecidableEq
structure cP where
 cq:fb
 ig:Int
 cW:fH
 iE:Bool
deriving DecidableEq
end
end Go.Ve.T
namespace Go.Ve.T
open Go.Ve Go.Proofs Go.ChangeShapes Go.WideShapes Go.ChangeAt Go.RowKit
section
variable {H:Type}{h:AH}
abbrev ni (h:AH) (t:TypeId) (cs:List Value) (d:DataW H):Prop:=AD PP h t cs d
theorem anR {α:Type}(R:List Value→α→Prop) (Pr:α→Prop):∀ls:List (List Value),(∀y∈ls,∃x,R y x∧Pr x)→∃l,ah R ls l∧∀x∈l,Pr x:=by
 intro ls
 induction ls with
 | nil=>intro _;exact⟨[],ah.nil,fun x hx=>by cases hx⟩
 | cons y ls ih =>
  intro hh
  obtain⟨x,h1,h2⟩:=hh y List.mem_cons_self
  obtain⟨l,h3,h4⟩:=ih fun z hz=>hh z (List.mem_cons_of_mem _ hz)
  refine⟨x::l,⟨by rw [List.length_cons,List.length_cons,h3.1],fun i a c ha hc=> ?_⟩,fun z hz=> ?_⟩
  · cases i with
    | zero=>simp at ha hc;rw [←ha,←hc];exact h1
    | succ i=>exact h3.2 i a c (by simpa using ha) (by simpa using hc)
  · rcases List.mem_cons.1 hz with h | h
    · rw [h];exact h2
    · exact h4 z h
theorem anS {t:TypeId}{cs:List Value}{d:DataW H}(hu:PP.underlying t=some (.int .i64)) (A:ni h t cs d):∃n,rI .i64 h cs n∧-9223372036854775808≤n:=by
 cases A with
 | int t k n bZ hw =>
  rw [hu]at bZ;cases bZ
  refine⟨n,rfl, ?_⟩
  have:IntKind.i64.min≤n∧n≤IntKind.i64.max:=by
   simpa [Lit.wf]using hw
  have e:IntKind.i64.min= -9223372036854775808:=by decide
  omega
 | bool _ _ bZ=>rw [hu]at bZ;cases bZ
 | str _ _ bZ=>rw [hu]at bZ;cases bZ
 | oe _ _ bZ=>rw [hu]at bZ;cases bZ
 | sl _ _ _ _ _ _ _ _ _ bZ=>rw [hu]at bZ;cases bZ
 | struct _ _ _ _ bZ=>rw [hu]at bZ;cases bZ
 | arr _ _ _ _ _ bZ=>rw [hu]at bZ;cases bZ
theorem anT {t:TypeId}{cs:List Value}{d:DataW H}(hu:PP.underlying t=some .string) (A:ni h t cs d):∃s,cs=[.string s]:=by
 cases A with
 | str t s bZ=>exact⟨s,rfl⟩
 | bool _ _ bZ=>rw [hu]at bZ;cases bZ
 | int _ _ _ bZ=>rw [hu]at bZ;cases bZ
 | oe _ _ bZ=>rw [hu]at bZ;cases bZ
 | sl _ _ _ _ _ _ _ _ _ bZ=>rw [hu]at bZ;cases bZ
 | struct _ _ _ _ bZ=>rw [hu]at bZ;cases bZ
 | arr _ _ _ _ _ bZ=>rw [hu]at bZ;cases bZ
theorem ad2 {α:Type}{rep:iO α}{sz:Nat}{t e:TypeId}{cs:List Value}{d:DataW H}(hu:PP.underlying t=some (.slice e)) (hz:PP.cellsOf e=sz) (Pr:α→Prop) (el:∀cs d,ni (H:=H) h e cs d→∃x,rep h cs x∧Pr x) (A:ni h t cs d):∃v l,cs=[v]∧ab rep sz h v l∧∀x∈l,Pr x:=by
 cases A with
 | oe t e' bZ=>exact⟨_,[],rfl,ab.nil,fun x hx=>by cases hx⟩
 | sl t e' b o n cap ja rest dN bZ hn hc jE hl oi hr he =>
  rw [hu]at bZ;cases bZ
  obtain⟨l,h1,h2⟩:=anR (rep h) Pr dN fun y hy=>by
   obtain⟨i,hi⟩:=List.getElem?_of_mem hy
   have bJ:i<ja.length:=by rw [hn,←hl];exact(List.getElem?_eq_some_iff.1 hi).1
   exact el y _ (he i y _ hi (List.getElem?_eq_getElem bJ))
  refine⟨_,l,rfl,⟨dN,.mk b o n cap dN hl.symm ⟨?_,.inl ⟨hc, ?_⟩⟩ (fun x hx=>by rw [←hz];exact oi x hx) hr,h1⟩,h2⟩
  · have:maxLen<bg:=by decide
    omega
  · have:maxLen<bg:=by decide
    omega
 | bool _ _ bZ=>rw [hu]at bZ;cases bZ
 | int _ _ _ bZ=>rw [hu]at bZ;cases bZ
 | str _ _ bZ=>rw [hu]at bZ;cases bZ
 | struct _ _ _ _ bZ=>rw [hu]at bZ;cases bZ
 | arr _ _ _ _ _ bZ=>rw [hu]at bZ;cases bZ
theorem Vt {t:TypeId}{fs:Array Field}{cs:List Value}{d:DataW H}(hu:PP.underlying t=some (.struct fs)) (A:ni h t cs d):cs.length=PP.cellsOf t∧∀(i:Nat) (f:Field),fs[i]? =some f→∃d',ni (H:=H) h f.type ((cs.drop f.offset).take (PP.cellsOf f.type)) d':=by
 cases A with
 | struct t fs' cs ds bZ hl hd he =>
  rw [hu]at bZ;cases bZ
  refine⟨hl,fun i f hf=> ?_⟩
  have bJ:i<ds.length:=by rw [hd];exact(Array.getElem?_eq_some_iff.1 hf).1
  exact⟨_,he i f _ hf (List.getElem?_eq_getElem bJ)⟩
 | bool _ _ bZ=>rw [hu]at bZ;cases bZ
 | int _ _ _ bZ=>rw [hu]at bZ;cases bZ
 | str _ _ bZ=>rw [hu]at bZ;cases bZ
 | oe _ _ bZ=>rw [hu]at bZ;cases bZ
 | sl _ _ _ _ _ _ _ _ _ bZ=>rw [hu]at bZ;cases bZ
 | arr _ _ _ _ _ bZ=>rw [hu]at bZ;cases bZ
theorem oD {k z o:Nat}{cs:List Value}{d:DataW H}(hz:PP.cellsOf k=z) (A:ni h k ((cs.drop o).take (PP.cellsOf k)) d):ni h k ((cs.drop o).take z) d:=hz▸A
theorem anU:PP.cellsOf 25=7:=by kernel_rfl
theorem sz9:PP.cellsOf 9=1:=by kernel_rfl
theorem ad3 {cs:List Value}{d:DataW H}(A:ni h 9 cs d):∃x,rS h cs x∧True:=by
 obtain⟨b,rfl⟩:=anT Tryz.underlying9 A
 exact⟨b,rfl,trivial⟩
theorem td:PP.cellsOf 3=1:=by kernel_rfl
theorem tf {cs:List Value}{d:DataW H}(A:ni h 3 cs d):∃x,rI .i64 h cs x∧-9223372036854775808≤x:=anS Tryz.underlying3 A
theorem anV:PP.cellsOf 22=1:=by kernel_rfl
theorem ad4:PP.cellsOf 67=4:=by kernel_rfl
theorem anW {α:Type}{l:List α}(h:l.length=4):∃c0 c1 c2 c3,l=[c0,c1,c2,c3]:=by
 match l,h with
 | [c0,c1,c2,c3],_=>exact⟨c0,c1,c2,c3,rfl⟩
theorem anX {cs:List Value}{d:DataW H}(A:ni h 67 cs d):∃x,aq.rep h cs x∧(-9223372036854775808≤x.aI)∧(-9223372036854775808≤x.fA)∧(-9223372036854775808≤x.fB)∧(-9223372036854775808≤x.fC):=by
 obtain⟨hl,hf⟩:=Vt Tryz.underlying67 A
 obtain⟨_,A0⟩:=hf 0 _ rfl
 obtain⟨x0,e0,p0⟩:=tf (oD td A0)
 obtain⟨_,A1⟩:=hf 1 _ rfl
 obtain⟨x1,e1,p1⟩:=tf (oD td A1)
 obtain⟨_,A2⟩:=hf 2 _ rfl
 obtain⟨x2,e2,p2⟩:=tf (oD td A2)
 obtain⟨_,A3⟩:=hf 3 _ rfl
 obtain⟨x3,e3,p3⟩:=tf (oD td A3)
 rw [ad4]at hl
 obtain⟨c0,c1,c2,c3,rfl⟩:=anW hl
 cases e0
 cases e1
 cases e2
 cases e3
 exact⟨⟨x0,x1,x2,x3⟩,rfl,⟨p0,p1,p2,p3⟩⟩
theorem anY {cs:List Value}{d:DataW H}(A:ni h 22 cs d):∃x,(rL aq.rep 4) h cs x∧∀vg∈x,(-9223372036854775808≤vg.aI)∧(-9223372036854775808≤vg.fA)∧(-9223372036854775808≤vg.fB)∧(-9223372036854775808≤vg.fC):=by
 obtain⟨v,l,e,f,p⟩:=ad2 (rep:=aq.rep) Tryz.underlying22 ad4 (fun y=>(-9223372036854775808≤y.aI)∧(-9223372036854775808≤y.fA)∧(-9223372036854775808≤y.fB)∧(-9223372036854775808≤y.fC)) (fun cs d A=>anX A) A
 exact⟨l,⟨v,e,f⟩,p⟩
theorem anZ:PP.cellsOf 23=1:=by kernel_rfl
theorem ad5:PP.cellsOf 79=3:=by kernel_rfl
theorem an0 {α:Type}{l:List α}(h:l.length=3):∃c0 c1 c2,l=[c0,c1,c2]:=by
 match l,h with
 | [c0,c1,c2],_=>exact⟨c0,c1,c2,rfl⟩
theorem an1 {cs:List Value}{d:DataW H}(A:ni h 79 cs d):∃x,aK.rep h cs x∧(-9223372036854775808≤x.eD)∧(-9223372036854775808≤x.fg)∧(-9223372036854775808≤x.eg):=by
 obtain⟨hl,hf⟩:=Vt Tryz.underlying79 A
 obtain⟨_,A0⟩:=hf 0 _ rfl
 obtain⟨x0,e0,p0⟩:=tf (oD td A0)
 obtain⟨_,A1⟩:=hf 1 _ rfl
 obtain⟨x1,e1,p1⟩:=tf (oD td A1)
 obtain⟨_,A2⟩:=hf 2 _ rfl
 obtain⟨x2,e2,p2⟩:=tf (oD td A2)
 rw [ad5]at hl
 obtain⟨c0,c1,c2,rfl⟩:=an0 hl
 cases e0
 cases e1
 cases e2
 exact⟨⟨x0,x1,x2⟩,rfl,⟨p0,p1,p2⟩⟩
theorem an2 {cs:List Value}{d:DataW H}(A:ni h 23 cs d):∃x,(rL aK.rep 3) h cs x∧∀zM∈x,(-9223372036854775808≤zM.eD)∧(-9223372036854775808≤zM.fg)∧(-9223372036854775808≤zM.eg):=by
 obtain⟨v,l,e,f,p⟩:=ad2 (rep:=aK.rep) Tryz.underlying23 ad5 (fun y=>(-9223372036854775808≤y.eD)∧(-9223372036854775808≤y.fg)∧(-9223372036854775808≤y.eg)) (fun cs d A=>an1 A) A
 exact⟨l,⟨v,e,f⟩,p⟩
theorem an3 {α:Type}{l:List α}(h:l.length=7):∃c0 c1 c2 c3 c4 c5 c6,l=[c0,c1,c2,c3,c4,c5,c6]:=by
 match l,h with
 | [c0,c1,c2,c3,c4,c5,c6],_=>exact⟨c0,c1,c2,c3,c4,c5,c6,rfl⟩
theorem ai4 {cs:List Value}{d:DataW H}(A:ni h 25 cs d):∃x,ak.rep h cs x∧(-9223372036854775808≤x.fArgs)∧(-9223372036854775808≤x.ay)∧(-9223372036854775808≤x.az)∧(∀vg∈x.ae,(-9223372036854775808≤vg.aI)∧(-9223372036854775808≤vg.fA)∧(-9223372036854775808≤vg.fB)∧(-9223372036854775808≤vg.fC))∧(∀zM∈x.aM,(-9223372036854775808≤zM.eD)∧(-9223372036854775808≤zM.fg)∧(-9223372036854775808≤zM.eg)):=by
 obtain⟨hl,hf⟩:=Vt Tryz.underlying25 A
 obtain⟨_,A0⟩:=hf 0 _ rfl
 obtain⟨x0,e0,p0⟩:=ad3 (oD sz9 A0)
 obtain⟨_,A1⟩:=hf 1 _ rfl
 obtain⟨x1,e1,p1⟩:=ad3 (oD sz9 A1)
 obtain⟨_,A2⟩:=hf 2 _ rfl
 obtain⟨x2,e2,p2⟩:=tf (oD td A2)
 obtain⟨_,A3⟩:=hf 3 _ rfl
 obtain⟨x3,e3,p3⟩:=tf (oD td A3)
 obtain⟨_,A4⟩:=hf 4 _ rfl
 obtain⟨x4,e4,p4⟩:=tf (oD td A4)
 obtain⟨_,A5⟩:=hf 5 _ rfl
 obtain⟨x5,e5,p5⟩:=anY (oD anV A5)
 obtain⟨_,A6⟩:=hf 6 _ rfl
 obtain⟨x6,e6,p6⟩:=an2 (oD anZ A6)
 rw [anU]at hl
 obtain⟨w5,e5,f5⟩:=e5
 obtain⟨w6,e6,f6⟩:=e6
 obtain⟨c0,c1,c2,c3,c4,c5,c6,rfl⟩:=an3 hl
 cases e0
 cases e1
 cases e2
 cases e3
 cases e4
 cases e5
 cases e6
 exact⟨⟨x0,x1,x2,x3,x4,x5,x6⟩,⟨w5,w6,rfl,f5,f6⟩,⟨p2,p3,p4,p5,p6⟩⟩
end
section
variable {H:Type}{enc:TypeId×Value→H}
theorem ai3:zJ PP 10 25=true:=by kernel_rfl
theorem ai2 {W:World}{t:TypeId}{v:Value}{d:DataW H}{ps:List MemPlace}(hp:zJ PP 10 t=true) (ht:DataW.Trod enc PP W 0 (fun _=>true) true t v d ps){φ:aO}{h:AH}(R:HR PP W φ h W) :
 ∃φ' h' cs,HR PP W φ' h' W∧Go.Ve.Ext h.nx φ φ'∧dT h h'∧LR φ' cs v.cells.toList∧ni h' t cs d:=by
 obtain⟨fuel,hf⟩:=ht
 exact ani 10 t _ _ fuel hp hf φ h R
end
end Go.Ve.T
