/- Part 14: MADE BY A PROGRAM (dec.py): the functions as the evaluator takes them, and that they are what the translation says. No condition. And what follows it. -/
import Derived.Test.YteeibihhdldjfaaGreatDoorVeM
import Derived.Test.YteeibihhdldjfaaGreatDoorProg
import Derived.KernelRfl
set_option linter.unusedVariables false
set_option linter.unusedSimpArgs false
namespace Go.Ve.T
open Go.Ve Go.Proofs
noncomputable abbrev PP : Program := Tryz.prog
theorem hmix : PP.follows .mixedOrders = true := by kernel_rfl
abbrev bs (l : List UInt8) : Value := .string ⟨⟨l⟩⟩
abbrev o (d : Pos) (p : Prim) (a : List Opd) : AOp := ⟨some d, .prim p, a, none⟩
abbrev m (d : Pos) (x : Opd) : AOp := ⟨some d, .prim .move, [x], none⟩
def s0 : Pos := .xH
def s1 : Pos := .xO s0
def s2 : Pos := .xI s0
def s3 : Pos := .xO s1
def s4 : Pos := .xI s1
def s5 : Pos := .xO s2
def s6 : Pos := .xI s2
def s7 : Pos := .xO s3
def s8 : Pos := .xI s3
def s9 : Pos := .xO s4
def s10 : Pos := .xI s4
def s11 : Pos := .xO s5
def s12 : Pos := .xI s5
def s13 : Pos := .xO s6
def s14 : Pos := .xI s6
def s15 : Pos := .xO s7
def s16 : Pos := .xI s7
def s17 : Pos := .xO s8
def s18 : Pos := .xI s8
def s19 : Pos := .xO s9
def s20 : Pos := .xI s9
def s21 : Pos := .xO s10
def s22 : Pos := .xI s10
def s23 : Pos := .xO s11
def s24 : Pos := .xI s11
def s25 : Pos := .xO s12
def s26 : Pos := .xI s12
def s27 : Pos := .xO s13
def s28 : Pos := .xI s13
def s29 : Pos := .xO s14
def s30 : Pos := .xI s14
def s31 : Pos := .xO s15
def s32 : Pos := .xI s15
def s33 : Pos := .xO s16
def s34 : Pos := .xI s16
def s35 : Pos := .xO s17
def s36 : Pos := .xI s17
def s37 : Pos := .xO s18
def s38 : Pos := .xI s18
def s39 : Pos := .xO s19
def s40 : Pos := .xI s19
def s41 : Pos := .xO s20
def s42 : Pos := .xI s20
def s43 : Pos := .xO s21
def s44 : Pos := .xI s21
def s45 : Pos := .xO s22
def s46 : Pos := .xI s22
def s47 : Pos := .xO s23
def s48 : Pos := .xI s23
def s49 : Pos := .xO s24
def s50 : Pos := .xI s24
def s51 : Pos := .xO s25
def s52 : Pos := .xI s25
def s53 : Pos := .xO s26
def s54 : Pos := .xI s26
def s55 : Pos := .xO s27
def s56 : Pos := .xI s27
def s57 : Pos := .xO s28
def s58 : Pos := .xI s28
def s59 : Pos := .xO s29
def s60 : Pos := .xI s29
def s61 : Pos := .xO s30
def s62 : Pos := .xI s30
def s63 : Pos := .xO s31
def s64 : Pos := .xI s31
def s65 : Pos := .xO s32
def s66 : Pos := .xI s32
def s67 : Pos := .xO s33
def s68 : Pos := .xI s33
def s69 : Pos := .xO s34
def s70 : Pos := .xI s34
def s71 : Pos := .xO s35
def s72 : Pos := .xI s35
def s73 : Pos := .xO s36
def s74 : Pos := .xI s36
def s75 : Pos := .xO s37
def s76 : Pos := .xI s37
def s77 : Pos := .xO s38
def s78 : Pos := .xI s38
def s79 : Pos := .xO s39
def s80 : Pos := .xI s39
def s81 : Pos := .xO s40
def s82 : Pos := .xI s40
def s83 : Pos := .xO s41
def s84 : Pos := .xI s41
def s85 : Pos := .xO s42
def s86 : Pos := .xI s42
def s87 : Pos := .xO s43
def s88 : Pos := .xI s43
def s89 : Pos := .xO s44
def s90 : Pos := .xI s44
def s91 : Pos := .xO s45
def s92 : Pos := .xI s45
def s93 : Pos := .xO s46
def s94 : Pos := .xI s46
def s95 : Pos := .xO s47
def s96 : Pos := .xI s47
def s97 : Pos := .xO s48
def s98 : Pos := .xI s48
def s99 : Pos := .xO s49
def s100 : Pos := .xI s49
def s101 : Pos := .xO s50
def s102 : Pos := .xI s50
def s103 : Pos := .xO s51
def s104 : Pos := .xI s51
def s105 : Pos := .xO s52
def s106 : Pos := .xI s52
def s107 : Pos := .xO s53
def s108 : Pos := .xI s53
def s109 : Pos := .xO s54
def s110 : Pos := .xI s54
def s111 : Pos := .xO s55
def s112 : Pos := .xI s55
def s113 : Pos := .xO s56
def s114 : Pos := .xI s56
def s115 : Pos := .xO s57
def s116 : Pos := .xI s57
def s117 : Pos := .xO s58
def s118 : Pos := .xI s58
def s119 : Pos := .xO s59
def s120 : Pos := .xI s59
def s121 : Pos := .xO s60
def s122 : Pos := .xI s60
def s123 : Pos := .xO s61
def s124 : Pos := .xI s61
def s125 : Pos := .xO s62
def s126 : Pos := .xI s62
def s127 : Pos := .xO s63
def s128 : Pos := .xI s63
def s129 : Pos := .xO s64
def s130 : Pos := .xI s64
def s131 : Pos := .xO s65
def s132 : Pos := .xI s65
def s133 : Pos := .xO s66
def s134 : Pos := .xI s66
def s135 : Pos := .xO s67
def s136 : Pos := .xI s67
def s137 : Pos := .xO s68
def s138 : Pos := .xI s68
def s139 : Pos := .xO s69
def s140 : Pos := .xI s69
def s141 : Pos := .xO s70
def s142 : Pos := .xI s70
def s143 : Pos := .xO s71
def s144 : Pos := .xI s71
def s145 : Pos := .xO s72
def s146 : Pos := .xI s72
def s147 : Pos := .xO s73
abbrev id_cosignerlaw08_CoreCuts : FuncId := 4
abbrev id_cosignerlaw08_head : FuncId := 12
abbrev id_cosignerlaw08_few : FuncId := 13
abbrev id_cosignerref08_SameInts : FuncId := 16
abbrev id_core_Cut : FuncId := 20
abbrev id_cosignerref08_Cut : FuncId := 21
abbrev id_cosignerref08_SameUnits : FuncId := 22
abbrev id_core_plain : FuncId := 53
abbrev id_cosignerref08_Plain : FuncId := 55
abbrev id_cosignerref08_jump : FuncId := 57
abbrev id_cosignerref08_in : FuncId := 58
abbrev id_slices_Clone_int_int : FuncId := 65
abbrev id_core_within : FuncId := 75
abbrev id_core_formOf : FuncId := 84
abbrev id_core_parts : FuncId := 87
abbrev id_cosignerref08_RowOf : FuncId := 88
abbrev id_slices_ContainsFunc_int_int : FuncId := 100
abbrev id_core_places : FuncId := 101
abbrev id_core_plain_1 : FuncId := 102
abbrev id_slices_ContainsFunc_api_Guard_api_Guard : FuncId := 103
abbrev id_core_plain_2 : FuncId := 104
abbrev id_core_forms : FuncId := 120
abbrev id_slices_IndexFunc_api_Guard_api_Guard : FuncId := 123
abbrev id_slices_IndexFunc_int_int : FuncId := 134
def a4 : AFn := ⟨51,[.tmp s4],(.seq (.ops [o s2 (.box 25) [.t s0],m s4 (.c (.bool false))]) (.seq (.ops [⟨some s11,(.call 12),[],none⟩,m s5 (.t s11)]) (.seq (.seq (.ops [o s12 (.loadN 7) [.t s2],⟨some s13,(.call 13),[.t s12],none⟩,o s14 (.notB) [.t s13],m s15 (.t s14),⟨some s16,(.prim (.move)),[.t s1],some (s15,false)⟩,⟨some s17,(.prim (.lenSl)),[.t s16],some (s15,false)⟩,⟨some s18,(.prim (.iop .gtr)),[.t s17,.c (vi 700)],some (s15,false)⟩,o s19 (.pick) [.t s15,.c (.bool true),.t s18]]) (.cond (.t s19) (.seq (.ops [m s20 (.t s5),m s4 (.t s20)]) .ret) .skip)) (.seq (.ops [o s22 (.loadN 7) [.t s2],m s23 (.t s1),⟨some s24,(.call 20),[.t s22,.t s23],none⟩,m s21 (.t s24),o s25 (.extract 0) [.t s21],o s26 (.extract 1) [.t s21],o s27 (.extract 2) [.t s21],o s6 (.alloc 25 [(bs []), (bs []), (vi 0), (vi 0), (vi 0), nilS, nilS]) [],⟨none,(.prim (.store 7)),[.t s6,.t s25],none⟩,m s7 (.t s26),m s8 (.t s27)]) (.seq (.ops [o s28 (.loadN 7) [.t s2],m s29 (.t s1),⟨some s30,(.call 21),[.t s28,.t s29],none⟩,o s9 (.alloc 43 [(bs []), (bs []), (vi 0), (vi 0), (vi 0), nilS, nilS, nilS, (vi 0)]) [],⟨none,(.prim (.store 9)),[.t s9,.t s30],none⟩]) (.seq (.ops [o s31 (.loadN 7) [.t s6],o s32 (.fieldAddr 0) [.t s9],o s33 (.loadN 7) [.t s32],⟨some s34,(.call 22),[.t s31,.t s33],none⟩,m s35 (.t s34),⟨some s36,(.prim (.move)),[.t s7],some (s35,true)⟩,⟨some s37,(.prim (.fieldAddr 7)),[.t s9],some (s35,true)⟩,⟨some s38,(.prim (.load1)),[.t s37],some (s35,true)⟩,⟨some s39,(.call 16),[.t s36,.t s38],some (s35,true)⟩,o s40 (.pick) [.t s35,.t s39,.c (.bool false)],m s10 (.t s40)]) (.seq (.ops [m s41 (.t s5),m s42 (.t s41),⟨some s43,(.prim (.move)),[.t s10],some (s42,true)⟩,o s44 (.pick) [.t s42,.t s43,.c (.bool false)],m s45 (.t s44),⟨some s46,(.prim (.move)),[.t s8],some (s45,true)⟩,⟨some s47,(.prim (.fieldAddr 8)),[.t s9],some (s45,true)⟩,⟨some s48,(.prim (.load1)),[.t s47],some (s45,true)⟩,⟨some s49,(.prim (.iop .eql)),[.t s46,.t s48],some (s45,true)⟩,o s50 (.pick) [.t s45,.t s49,.c (.bool false)],m s4 (.t s50)]) .ret))))))),false⟩
theorem e4 : cFn PP 4 = some a4 := by kernel_rfl
def a13 : AFn := ⟨37,[.tmp s2],(.seq (.ops [o s1 (.box 25) [.t s0],m s2 (.c (.bool false))]) (.seq (.ops [o s3 (.fieldAddr 5) [.t s1],o s4 (.load1) [.t s3],o s5 (.lenSl) [.t s4],o s6 (.iop .leq) [.t s5,.c (vi 40)],m s7 (.t s6),⟨some s8,(.prim (.fieldAddr 5)),[.t s1],some (s7,false)⟩,⟨some s9,(.prim (.load1)),[.t s8],some (s7,false)⟩,⟨some s10,(.prim (.lenSl)),[.t s9],some (s7,false)⟩,⟨some s11,(.prim (.iop .gtr)),[.t s10,.c (vi 600)],some (s7,false)⟩,⟨some s12,(.prim (.move)),[.t s11],some (s7,false)⟩,⟨some s13,(.prim (.fieldAddr 5)),[.t s1],some (s12,true)⟩,⟨some s14,(.prim (.load1)),[.t s13],some (s12,true)⟩,⟨some s15,(.prim (.lenSl)),[.t s14],some (s12,true)⟩,⟨some s16,(.prim (.iop .leq)),[.t s15,.c (vi 700)],some (s12,true)⟩,⟨some s17,(.prim (.pick)),[.t s12,.t s16,.c (.bool false)],some (s7,false)⟩,o s18 (.pick) [.t s7,.c (.bool true),.t s17],m s19 (.t s18),⟨some s20,(.prim (.fieldAddr 6)),[.t s1],some (s19,true)⟩,⟨some s21,(.prim (.load1)),[.t s20],some (s19,true)⟩,⟨some s22,(.prim (.lenSl)),[.t s21],some (s19,true)⟩,⟨some s23,(.prim (.iop .leq)),[.t s22,.c (vi 8)],some (s19,true)⟩,⟨some s24,(.prim (.move)),[.t s23],some (s19,true)⟩,⟨some s25,(.prim (.fieldAddr 6)),[.t s1],some (s24,false)⟩,⟨some s26,(.prim (.load1)),[.t s25],some (s24,false)⟩,⟨some s27,(.prim (.lenSl)),[.t s26],some (s24,false)⟩,⟨some s28,(.prim (.iop .gtr)),[.t s27,.c (vi 40)],some (s24,false)⟩,⟨some s29,(.prim (.move)),[.t s28],some (s24,false)⟩,⟨some s30,(.prim (.fieldAddr 6)),[.t s1],some (s29,true)⟩,⟨some s31,(.prim (.load1)),[.t s30],some (s29,true)⟩,⟨some s32,(.prim (.lenSl)),[.t s31],some (s29,true)⟩,⟨some s33,(.prim (.iop .leq)),[.t s32,.c (vi 60)],some (s29,true)⟩,⟨some s34,(.prim (.pick)),[.t s29,.t s33,.c (.bool false)],some (s24,false)⟩,⟨some s35,(.prim (.pick)),[.t s24,.c (.bool true),.t s34],some (s19,true)⟩,o s36 (.pick) [.t s19,.t s35,.c (.bool false)],m s2 (.t s36)]) .ret)),false⟩
theorem e13 : cFn PP 13 = some a13 := by kernel_rfl
def a16 : AFn := ⟨26,[.tmp s4],(.seq (.ops [m s4 (.c (.bool false))]) (.seq (.seq (.ops [m s6 (.t s0),o s7 (.lenSl) [.t s6],m s8 (.t s1),o s9 (.lenSl) [.t s8],o s10 (.iop .neq) [.t s7,.t s9]]) (.cond (.t s10) (.seq (.ops [m s4 (.c (.bool false))]) .ret) .skip)) (.seq (.seq (.ops [m s5 (.c (vi 0))]) (.block 0 (.loop (.seq (.seq (.ops [m s11 (.t s5),m s12 (.t s0),o s13 (.lenSl) [.t s12],o s14 (.iop .lss) [.t s11,.t s13]]) (.cond (.t s14) .skip (.exit 0))) (.seq (.block 1 (.seq (.draw [.op 0 (m s17 (.t s0)),.op 1 (m s18 (.t s5)),.op 2 (o s19 (.idxSlice 1) [.t s17,.t s18]),.op 3 (o s20 (.load1) [.t s19]),.op 4 (m s21 (.t s1)),.op 5 (m s22 (.t s5)),.op 6 (o s23 (.idxSlice 1) [.t s21,.t s22]),.op 7 (o s24 (.load1) [.t s23]),.op 8 (o s25 (.iop .neq) [.t s20,.t s24])]) (.cond (.t s25) (.seq (.ops [m s4 (.c (.bool false))]) .ret) .skip))) (.ops [m s15 (.t s5),o s16 (.iop .add) [.t s15,.c (vi 1)],m s5 (.t s16)])))))) (.seq (.ops [m s4 (.c (.bool true))]) .ret)))),false⟩
theorem e16 : cFn PP 16 = some a16 := by kernel_rfl
def a20 : AFn := ⟨136,[.cell s4 (some 7),.tmp s5,.tmp s6],(.seq (.ops [o s2 (.box 25) [.t s0],o s4 (.alloc 25 [(bs []), (bs []), (vi 0), (vi 0), (vi 0), nilS, nilS]) [],m s5 (.c nilS),m s6 (.c (vi 0))]) (.seq (.seq (.ops [o s18 (.loadN 7) [.t s2],⟨some s19,(.call 53),[.t s18],none⟩,o s20 (.notB) [.t s19],m s21 (.t s20),⟨some s22,(.prim (.move)),[.t s1],some (s21,false)⟩,⟨some s23,(.prim (.lenSl)),[.t s22],some (s21,false)⟩,⟨some s24,(.prim (.fieldAddr 5)),[.t s2],some (s21,false)⟩,⟨some s25,(.prim (.load1)),[.t s24],some (s21,false)⟩,⟨some s26,(.prim (.lenSl)),[.t s25],some (s21,false)⟩,⟨some s27,(.prim (.iop .neq)),[.t s23,.t s26],some (s21,false)⟩,o s28 (.pick) [.t s21,.c (.bool true),.t s27]]) (.cond (.t s28) (.seq (.ops [o s29 (.build [(bs []), (bs []), (vi 0), (vi 0), (vi 0), nilS, nilS] []) [],⟨none,(.prim (.store 7)),[.t s4,.t s29],none⟩,m s5 (.c nilS),m s6 (.c (vi 1))]) .ret) .skip)) (.seq (.seq (.ops [m s30 (.t s1),m s31 (.t s1),o s32 (.lenSl) [.t s31],o s33 (.iop .sub) [.t s32,.c (vi 1)],o s34 (.idxSlice 1) [.t s30,.t s33],o s35 (.load1) [.t s34],o s36 (.notB) [.t s35]]) (.cond (.t s36) (.seq (.ops [o s37 (.build [(bs []), (bs []), (vi 0), (vi 0), (vi 0), nilS, nilS] []) [],⟨none,(.prim (.store 7)),[.t s4,.t s37],none⟩,m s5 (.c nilS),m s6 (.c (vi 2))]) .ret) .skip)) (.seq (.ops [o s38 (.loadN 7) [.t s2],o s7 (.alloc 25 [(bs []), (bs []), (vi 0), (vi 0), (vi 0), nilS, nilS]) [],⟨none,(.prim (.store 7)),[.t s7,.t s38],none⟩]) (.seq (.ops [o s39 (.fieldAddr 5) [.t s7],⟨none,(.prim (.store 1)),[.t s39,.c nilS],none⟩,o s40 (.fieldAddr 6) [.t s7],⟨none,(.prim (.store 1)),[.t s40,.c nilS],none⟩]) (.seq (.ops [m s8 (.c nilS)]) (.seq (.ops [m s9 (.c (vi 0))]) (.seq (.seq (.ops [m s41 (.t s1),o s42 (.lenSl) [.t s41],m s43 (.c (vi 0))]) (.block 0 (.loop (.seq (.ops [o s44 (.iop .lss) [.t s43,.t s42]]) (.seq (.cond (.t s44) .skip (.exit 0)) (.seq (.block 1 (.seq (.ops [o s45 (.idxSlice 1) [.t s41,.t s43],o s46 (.load1) [.t s45],m s11 (.t s46)]) (.seq (.ops [m s47 (.t s8),m s48 (.t s9),o s49 (.buildSlice 3 1 [(vi 0)] [(0,1)]) [.t s48],o s50 (.append 3 1 [(vi 0)]) [.t s47,.t s49],m s8 (.t s50)]) (.seq (.ops [m s51 (.t s11)]) (.cond (.t s51) (.ops [m s52 (.t s9),o s53 (.iop .add) [.t s52,.c (vi 1)],m s9 (.t s53)]) .skip))))) (.ops [o s54 (.iop .add) [.t s43,.c (vi 1)],m s43 (.t s54)]))))))) (.seq (.seq (.ops [o s55 (.fieldAddr 5) [.t s2],o s56 (.load1) [.t s55],o s57 (.lenSl) [.t s56],m s58 (.c (vi 0))]) (.block 2 (.loop (.seq (.ops [o s59 (.iop .lss) [.t s58,.t s57]]) (.seq (.cond (.t s59) .skip (.exit 2)) (.seq (.block 3 (.seq (.ops [m s60 (.t s58),o s61 (.idxSlice 4) [.t s56,.t s58],o s62 (.loadN 4) [.t s61],o s13 (.alloc 67 [(vi 0), (vi 0), (vi 0), (vi 0)]) [],m s12 (.t s60),⟨none,(.prim (.store 4)),[.t s13,.t s62],none⟩]) (.seq (.seq (.ops [m s63 (.t s1),m s64 (.t s12),o s65 (.idxSlice 1) [.t s63,.t s64],o s66 (.load1) [.t s65],o s67 (.notB) [.t s66]]) (.cond (.t s67) (.exit 3) .skip)) (.seq (.seq (.ops [o s68 (.fieldAddr 0) [.t s13],o s69 (.load1) [.t s68]]) (.block 4 (.seq (.ops [o s71 (.iop .eql) [.t s69,.c (vi 24)],m s70 (.t s71)]) (.cond (.t s70) (.ops [m s72 (.t s8),o s73 (.fieldAddr 1) [.t s13],o s74 (.load1) [.t s73],o s75 (.idxSlice 1) [.t s72,.t s74],o s76 (.load1) [.t s75],o s77 (.fieldAddr 1) [.t s13],⟨none,(.prim (.store 1)),[.t s77,.t s76],none⟩]) (.seq (.seq (.ops [o s79 (.iop .eql) [.t s69,.c (vi 25)],m s78 (.t s79)]) (.cond (.t s78) .skip (.ops [o s80 (.iop .eql) [.t s69,.c (vi 32)],m s78 (.t s80)]))) (.cond (.t s78) (.ops [m s81 (.t s8),o s82 (.fieldAddr 2) [.t s13],o s83 (.load1) [.t s82],o s84 (.idxSlice 1) [.t s81,.t s83],o s85 (.load1) [.t s84],o s86 (.fieldAddr 2) [.t s13],⟨none,(.prim (.store 1)),[.t s86,.t s85],none⟩]) .skip)))))) (.ops [o s87 (.fieldAddr 5) [.t s7],o s88 (.load1) [.t s87],o s89 (.loadN 4) [.t s13],o s90 (.buildSlice 67 1 [(vi 0), (vi 0), (vi 0), (vi 0)] [(0,4)]) [.t s89],o s91 (.append 67 4 [(vi 0), (vi 0), (vi 0), (vi 0)]) [.t s88,.t s90],o s92 (.fieldAddr 5) [.t s7],⟨none,(.prim (.store 1)),[.t s92,.t s91],none⟩]))))) (.ops [o s93 (.iop .add) [.t s58,.c (vi 1)],m s58 (.t s93)]))))))) (.seq (.ops [m s94 (.t s8),⟨some s95,(.call 65),[.t s94],none⟩,m s96 (.t s9),o s97 (.buildSlice 3 1 [(vi 0)] [(0,1)]) [.t s96],o s98 (.append 3 1 [(vi 0)]) [.t s95,.t s97],m s14 (.t s98)]) (.seq (.seq (.ops [o s99 (.fieldAddr 6) [.t s2],o s100 (.load1) [.t s99],o s101 (.lenSl) [.t s100],m s102 (.c (vi 0))]) (.block 5 (.loop (.seq (.ops [o s103 (.iop .lss) [.t s102,.t s101]]) (.seq (.cond (.t s103) .skip (.exit 5)) (.seq (.block 6 (.seq (.ops [o s104 (.idxSlice 3) [.t s100,.t s102],o s105 (.loadN 3) [.t s104],o s16 (.alloc 79 [(vi 0), (vi 0), (vi 0)]) [],⟨none,(.prim (.store 3)),[.t s16,.t s105],none⟩]) (.seq (.draw [.op 0 (m s106 (.t s14)),.op 1 (o s107 (.fieldAddr 0) [.t s16]),.op 2 (o s108 (.load1) [.t s107]),.op 3 (o s109 (.idxSlice 1) [.t s106,.t s108]),.op 4 (o s110 (.load1) [.t s109]),.op 5 (m s111 (.t s14)),.op 6 (o s112 (.fieldAddr 1) [.t s16]),.op 7 (o s113 (.load1) [.t s112]),.op 8 (o s114 (.idxSlice 1) [.t s111,.t s113]),.op 9 (o s115 (.load1) [.t s114]),.op 10 (m s116 (.t s8)),.op 11 (o s117 (.fieldAddr 2) [.t s16]),.op 12 (o s118 (.load1) [.t s117]),.op 13 (o s119 (.idxSlice 1) [.t s116,.t s118]),.op 14 (o s120 (.load1) [.t s119]),.op 15 (o s121 (.buildAll [1, 1, 1]) [.t s110,.t s115,.t s120]),.op 16 (o s17 (.alloc 79 [(vi 0), (vi 0), (vi 0)]) []),.op 17 (⟨none,(.prim (.store 3)),[.t s17,.t s121],none⟩)]) (.seq (.ops [o s122 (.fieldAddr 0) [.t s17],o s123 (.load1) [.t s122],o s124 (.fieldAddr 1) [.t s17],o s125 (.load1) [.t s124],o s126 (.iop .lss) [.t s123,.t s125]]) (.cond (.t s126) (.ops [o s127 (.fieldAddr 6) [.t s7],o s128 (.load1) [.t s127],o s129 (.loadN 3) [.t s17],o s130 (.buildSlice 79 1 [(vi 0), (vi 0), (vi 0)] [(0,3)]) [.t s129],o s131 (.append 79 3 [(vi 0), (vi 0), (vi 0)]) [.t s128,.t s130],o s132 (.fieldAddr 6) [.t s7],⟨none,(.prim (.store 1)),[.t s132,.t s131],none⟩]) .skip))))) (.ops [o s133 (.iop .add) [.t s102,.c (vi 1)],m s102 (.t s133)]))))))) (.seq (.ops [o s134 (.loadN 7) [.t s7],m s135 (.t s8),⟨none,(.prim (.store 7)),[.t s4,.t s134],none⟩,m s5 (.t s135),m s6 (.c (vi 0))]) .ret)))))))))))),false⟩
theorem e20 : cFn PP 20 = some a20 := by kernel_rfl
def a21 : AFn := ⟨148,[.cell s4 (some 9)],(.seq (.ops [o s2 (.box 25) [.t s0],o s4 (.alloc 43 [(bs []), (bs []), (vi 0), (vi 0), (vi 0), nilS, nilS, nilS, (vi 0)]) []]) (.seq (.ops [o s15 (.fieldAddr 5) [.t s2],o s16 (.load1) [.t s15],o s17 (.lenSl) [.t s16],m s5 (.t s17)]) (.seq (.seq (.ops [o s18 (.loadN 7) [.t s2],⟨some s19,(.call 55),[.t s18],none⟩,o s20 (.notB) [.t s19],m s21 (.t s20),⟨some s22,(.prim (.move)),[.t s1],some (s21,false)⟩,⟨some s23,(.prim (.lenSl)),[.t s22],some (s21,false)⟩,⟨some s24,(.prim (.move)),[.t s5],some (s21,false)⟩,⟨some s25,(.prim (.iop .neq)),[.t s23,.t s24],some (s21,false)⟩,o s26 (.pick) [.t s21,.c (.bool true),.t s25]]) (.cond (.t s26) (.seq (.ops [o s27 (.build [(bs []), (bs []), (vi 0), (vi 0), (vi 0), nilS, nilS, nilS, (vi 0)] [(8,1)]) [.c (vi 1)],⟨none,(.prim (.store 9)),[.t s4,.t s27],none⟩]) .ret) .skip)) (.seq (.seq (.ops [m s28 (.t s1),m s29 (.t s5),o s30 (.iop .sub) [.t s29,.c (vi 1)],o s31 (.idxSlice 1) [.t s28,.t s30],o s32 (.load1) [.t s31],o s33 (.notB) [.t s32]]) (.cond (.t s33) (.seq (.ops [o s34 (.build [(bs []), (bs []), (vi 0), (vi 0), (vi 0), nilS, nilS, nilS, (vi 0)] [(8,1)]) [.c (vi 2)],⟨none,(.prim (.store 9)),[.t s4,.t s34],none⟩]) .ret) .skip)) (.seq (.ops [m s35 (.t s5),o s36 (.iop .add) [.t s35,.c (vi 1)],o s37 (.mkSlice 3 1 [(vi 0)]) [.t s36,.t s36],m s6 (.t s37)]) (.seq (.ops [m s7 (.c (vi 0))]) (.seq (.seq (.ops [m s8 (.c (vi 0))]) (.block 0 (.loop (.seq (.seq (.ops [m s38 (.t s8),m s39 (.t s5),o s40 (.iop .lss) [.t s38,.t s39]]) (.cond (.t s40) .skip (.exit 0))) (.seq (.block 1 (.seq (.ops [m s43 (.t s6),m s44 (.t s8),m s45 (.t s7),o s46 (.idxSlice 1) [.t s43,.t s44],⟨none,(.prim (.store 1)),[.t s46,.t s45],none⟩]) (.seq (.ops [m s47 (.t s1),m s48 (.t s8),o s49 (.idxSlice 1) [.t s47,.t s48],o s50 (.load1) [.t s49]]) (.cond (.t s50) (.ops [m s51 (.t s7),o s52 (.iop .add) [.t s51,.c (vi 1)],m s7 (.t s52)]) .skip)))) (.ops [m s41 (.t s8),o s42 (.iop .add) [.t s41,.c (vi 1)],m s8 (.t s42)])))))) (.seq (.ops [m s53 (.t s6),m s54 (.t s5),m s55 (.t s7),o s56 (.idxSlice 1) [.t s53,.t s54],⟨none,(.prim (.store 1)),[.t s56,.t s55],none⟩]) (.seq (.ops [o s57 (.loadN 7) [.t s2],o s9 (.alloc 25 [(bs []), (bs []), (vi 0), (vi 0), (vi 0), nilS, nilS]) [],⟨none,(.prim (.store 7)),[.t s9,.t s57],none⟩]) (.seq (.ops [o s58 (.fieldAddr 5) [.t s9],⟨none,(.prim (.store 1)),[.t s58,.c nilS],none⟩]) (.seq (.ops [o s59 (.fieldAddr 6) [.t s9],⟨none,(.prim (.store 1)),[.t s59,.c nilS],none⟩]) (.seq (.seq (.ops [m s10 (.c (vi 0))]) (.block 2 (.loop (.seq (.seq (.ops [m s60 (.t s10),m s61 (.t s5),o s62 (.iop .lss) [.t s60,.t s61]]) (.cond (.t s62) .skip (.exit 2))) (.seq (.block 3 (.seq (.seq (.ops [m s65 (.t s1),m s66 (.t s10),o s67 (.idxSlice 1) [.t s65,.t s66],o s68 (.load1) [.t s67],o s69 (.notB) [.t s68]]) (.cond (.t s69) (.exit 3) .skip)) (.seq (.ops [o s70 (.fieldAddr 5) [.t s2],o s71 (.load1) [.t s70],m s72 (.t s10),o s73 (.idxSlice 4) [.t s71,.t s72],o s74 (.loadN 4) [.t s73],o s11 (.alloc 67 [(vi 0), (vi 0), (vi 0), (vi 0)]) [],⟨none,(.prim (.store 4)),[.t s11,.t s74],none⟩]) (.seq (.seq (.ops [o s75 (.fieldAddr 0) [.t s11],o s76 (.load1) [.t s75],o s77 (.iop .eql) [.t s76,.c (vi 24)]]) (.cond (.t s77) (.ops [m s78 (.t s6),o s79 (.fieldAddr 1) [.t s11],o s80 (.load1) [.t s79],o s81 (.idxSlice 1) [.t s78,.t s80],o s82 (.load1) [.t s81],o s83 (.fieldAddr 1) [.t s11],⟨none,(.prim (.store 1)),[.t s83,.t s82],none⟩]) .skip)) (.seq (.seq (.ops [o s84 (.fieldAddr 0) [.t s11],o s85 (.load1) [.t s84],o s86 (.iop .eql) [.t s85,.c (vi 25)],m s87 (.t s86),⟨some s88,(.prim (.fieldAddr 0)),[.t s11],some (s87,false)⟩,⟨some s89,(.prim (.load1)),[.t s88],some (s87,false)⟩,⟨some s90,(.prim (.iop .eql)),[.t s89,.c (vi 32)],some (s87,false)⟩,o s91 (.pick) [.t s87,.c (.bool true),.t s90]]) (.cond (.t s91) (.ops [m s92 (.t s6),o s93 (.fieldAddr 2) [.t s11],o s94 (.load1) [.t s93],o s95 (.idxSlice 1) [.t s92,.t s94],o s96 (.load1) [.t s95],o s97 (.fieldAddr 2) [.t s11],⟨none,(.prim (.store 1)),[.t s97,.t s96],none⟩]) .skip)) (.ops [o s98 (.fieldAddr 5) [.t s9],o s99 (.load1) [.t s98],o s100 (.loadN 4) [.t s11],o s101 (.buildSlice 67 1 [(vi 0), (vi 0), (vi 0), (vi 0)] [(0,4)]) [.t s100],o s102 (.append 67 4 [(vi 0), (vi 0), (vi 0), (vi 0)]) [.t s99,.t s101],o s103 (.fieldAddr 5) [.t s9],⟨none,(.prim (.store 1)),[.t s103,.t s102],none⟩])))))) (.ops [m s63 (.t s10),o s64 (.iop .add) [.t s63,.c (vi 1)],m s10 (.t s64)])))))) (.seq (.seq (.ops [m s12 (.c (vi 0))]) (.block 4 (.loop (.seq (.seq (.ops [m s104 (.t s12),o s105 (.fieldAddr 6) [.t s2],o s106 (.load1) [.t s105],o s107 (.lenSl) [.t s106],o s108 (.iop .lss) [.t s104,.t s107]]) (.cond (.t s108) .skip (.exit 4))) (.seq (.block 5 (.seq (.ops [o s111 (.fieldAddr 6) [.t s2],o s112 (.load1) [.t s111],m s113 (.t s12),o s114 (.idxSlice 3) [.t s112,.t s113],o s115 (.loadN 3) [.t s114],o s13 (.alloc 79 [(vi 0), (vi 0), (vi 0)]) [],⟨none,(.prim (.store 3)),[.t s13,.t s115],none⟩]) (.seq (.draw [.op 0 (m s116 (.t s6)),.op 1 (o s117 (.fieldAddr 0) [.t s13]),.op 2 (o s118 (.load1) [.t s117]),.op 3 (o s119 (.idxSlice 1) [.t s116,.t s118]),.op 4 (o s120 (.load1) [.t s119]),.op 5 (m s121 (.t s6)),.op 6 (o s122 (.fieldAddr 1) [.t s13]),.op 7 (o s123 (.load1) [.t s122]),.op 8 (o s124 (.idxSlice 1) [.t s121,.t s123]),.op 9 (o s125 (.load1) [.t s124]),.op 10 (m s126 (.t s6)),.op 11 (o s127 (.fieldAddr 2) [.t s13]),.op 12 (o s128 (.load1) [.t s127]),.op 13 (o s129 (.idxSlice 1) [.t s126,.t s128]),.op 14 (o s130 (.load1) [.t s129]),.op 15 (o s131 (.buildAll [1, 1, 1]) [.t s120,.t s125,.t s130]),.op 16 (o s14 (.alloc 79 [(vi 0), (vi 0), (vi 0)]) []),.op 17 (⟨none,(.prim (.store 3)),[.t s14,.t s131],none⟩)]) (.seq (.ops [o s132 (.fieldAddr 0) [.t s14],o s133 (.load1) [.t s132],o s134 (.fieldAddr 1) [.t s14],o s135 (.load1) [.t s134],o s136 (.iop .neq) [.t s133,.t s135]]) (.cond (.t s136) (.ops [o s137 (.fieldAddr 6) [.t s9],o s138 (.load1) [.t s137],o s139 (.loadN 3) [.t s14],o s140 (.buildSlice 79 1 [(vi 0), (vi 0), (vi 0)] [(0,3)]) [.t s139],o s141 (.append 79 3 [(vi 0), (vi 0), (vi 0)]) [.t s138,.t s140],o s142 (.fieldAddr 6) [.t s9],⟨none,(.prim (.store 1)),[.t s142,.t s141],none⟩]) .skip))))) (.ops [m s109 (.t s12),o s110 (.iop .add) [.t s109,.c (vi 1)],m s12 (.t s110)])))))) (.seq (.draw [.op 0 (o s143 (.loadN 7) [.t s9]),.op 1 (m s144 (.t s6)),.op 2 (m s145 (.t s5)),.op 3 (o s146 (.slice 1 false true false) [.t s144,.t s145]),.op 4 (o s147 (.build [(bs []), (bs []), (vi 0), (vi 0), (vi 0), nilS, nilS, nilS, (vi 0)] [(0,7), (7,1)]) [.t s143,.t s146]),.op 5 (⟨none,(.prim (.store 9)),[.t s4,.t s147],none⟩)]) .ret)))))))))))))),false⟩
theorem e21 : cFn PP 21 = some a21 := by kernel_rfl
def a22 : AFn := ⟨94,[.tmp s4],(.seq (.ops [o s2 (.box 25) [.t s0],o s3 (.box 25) [.t s1],m s4 (.c (.bool false))]) (.seq (.seq (.ops [o s7 (.fieldAddr 0) [.t s2],o s8 (.load1) [.t s7],o s9 (.fieldAddr 0) [.t s3],o s10 (.load1) [.t s9],o s11 (.sop .neq) [.t s8,.t s10],m s12 (.t s11),⟨some s13,(.prim (.fieldAddr 1)),[.t s2],some (s12,false)⟩,⟨some s14,(.prim (.load1)),[.t s13],some (s12,false)⟩,⟨some s15,(.prim (.fieldAddr 1)),[.t s3],some (s12,false)⟩,⟨some s16,(.prim (.load1)),[.t s15],some (s12,false)⟩,⟨some s17,(.prim (.sop .neq)),[.t s14,.t s16],some (s12,false)⟩,o s18 (.pick) [.t s12,.c (.bool true),.t s17],m s19 (.t s18),⟨some s20,(.prim (.fieldAddr 2)),[.t s2],some (s19,false)⟩,⟨some s21,(.prim (.load1)),[.t s20],some (s19,false)⟩,⟨some s22,(.prim (.fieldAddr 2)),[.t s3],some (s19,false)⟩,⟨some s23,(.prim (.load1)),[.t s22],some (s19,false)⟩,⟨some s24,(.prim (.iop .neq)),[.t s21,.t s23],some (s19,false)⟩,o s25 (.pick) [.t s19,.c (.bool true),.t s24],m s26 (.t s25),⟨some s27,(.prim (.fieldAddr 3)),[.t s2],some (s26,false)⟩,⟨some s28,(.prim (.load1)),[.t s27],some (s26,false)⟩,⟨some s29,(.prim (.fieldAddr 3)),[.t s3],some (s26,false)⟩,⟨some s30,(.prim (.load1)),[.t s29],some (s26,false)⟩,⟨some s31,(.prim (.iop .neq)),[.t s28,.t s30],some (s26,false)⟩,o s32 (.pick) [.t s26,.c (.bool true),.t s31],m s33 (.t s32),⟨some s34,(.prim (.fieldAddr 4)),[.t s2],some (s33,false)⟩,⟨some s35,(.prim (.load1)),[.t s34],some (s33,false)⟩,⟨some s36,(.prim (.fieldAddr 4)),[.t s3],some (s33,false)⟩,⟨some s37,(.prim (.load1)),[.t s36],some (s33,false)⟩,⟨some s38,(.prim (.iop .neq)),[.t s35,.t s37],some (s33,false)⟩,o s39 (.pick) [.t s33,.c (.bool true),.t s38],m s40 (.t s39),⟨some s41,(.prim (.fieldAddr 5)),[.t s2],some (s40,false)⟩,⟨some s42,(.prim (.load1)),[.t s41],some (s40,false)⟩,⟨some s43,(.prim (.lenSl)),[.t s42],some (s40,false)⟩,⟨some s44,(.prim (.fieldAddr 5)),[.t s3],some (s40,false)⟩,⟨some s45,(.prim (.load1)),[.t s44],some (s40,false)⟩,⟨some s46,(.prim (.lenSl)),[.t s45],some (s40,false)⟩,⟨some s47,(.prim (.iop .neq)),[.t s43,.t s46],some (s40,false)⟩,o s48 (.pick) [.t s40,.c (.bool true),.t s47],m s49 (.t s48),⟨some s50,(.prim (.fieldAddr 6)),[.t s2],some (s49,false)⟩,⟨some s51,(.prim (.load1)),[.t s50],some (s49,false)⟩,⟨some s52,(.prim (.lenSl)),[.t s51],some (s49,false)⟩,⟨some s53,(.prim (.fieldAddr 6)),[.t s3],some (s49,false)⟩,⟨some s54,(.prim (.load1)),[.t s53],some (s49,false)⟩,⟨some s55,(.prim (.lenSl)),[.t s54],some (s49,false)⟩,⟨some s56,(.prim (.iop .neq)),[.t s52,.t s55],some (s49,false)⟩,o s57 (.pick) [.t s49,.c (.bool true),.t s56]]) (.cond (.t s57) (.seq (.ops [m s4 (.c (.bool false))]) .ret) .skip)) (.seq (.seq (.ops [m s5 (.c (vi 0))]) (.block 0 (.loop (.seq (.seq (.ops [m s58 (.t s5),o s59 (.fieldAddr 5) [.t s2],o s60 (.load1) [.t s59],o s61 (.lenSl) [.t s60],o s62 (.iop .lss) [.t s58,.t s61]]) (.cond (.t s62) .skip (.exit 0))) (.seq (.block 1 (.seq (.draw [.op 0 (o s65 (.fieldAddr 5) [.t s2]),.op 1 (o s66 (.load1) [.t s65]),.op 2 (m s67 (.t s5)),.op 3 (o s68 (.idxSlice 4) [.t s66,.t s67]),.op 4 (o s69 (.loadN 4) [.t s68]),.op 5 (o s70 (.fieldAddr 5) [.t s3]),.op 6 (o s71 (.load1) [.t s70]),.op 7 (m s72 (.t s5)),.op 8 (o s73 (.idxSlice 4) [.t s71,.t s72]),.op 9 (o s74 (.loadN 4) [.t s73]),.op 10 (o s75 (.eqAgg true [0, 0, 0, 0]) [.t s69,.t s74])]) (.cond (.t s75) (.seq (.ops [m s4 (.c (.bool false))]) .ret) .skip))) (.ops [m s63 (.t s5),o s64 (.iop .add) [.t s63,.c (vi 1)],m s5 (.t s64)])))))) (.seq (.seq (.ops [m s6 (.c (vi 0))]) (.block 2 (.loop (.seq (.seq (.ops [m s76 (.t s6),o s77 (.fieldAddr 6) [.t s2],o s78 (.load1) [.t s77],o s79 (.lenSl) [.t s78],o s80 (.iop .lss) [.t s76,.t s79]]) (.cond (.t s80) .skip (.exit 2))) (.seq (.block 3 (.seq (.draw [.op 0 (o s83 (.fieldAddr 6) [.t s2]),.op 1 (o s84 (.load1) [.t s83]),.op 2 (m s85 (.t s6)),.op 3 (o s86 (.idxSlice 3) [.t s84,.t s85]),.op 4 (o s87 (.loadN 3) [.t s86]),.op 5 (o s88 (.fieldAddr 6) [.t s3]),.op 6 (o s89 (.load1) [.t s88]),.op 7 (m s90 (.t s6)),.op 8 (o s91 (.idxSlice 3) [.t s89,.t s90]),.op 9 (o s92 (.loadN 3) [.t s91]),.op 10 (o s93 (.eqAgg true [0, 0, 0]) [.t s87,.t s92])]) (.cond (.t s93) (.seq (.ops [m s4 (.c (.bool false))]) .ret) .skip))) (.ops [m s81 (.t s6),o s82 (.iop .add) [.t s81,.c (vi 1)],m s6 (.t s82)])))))) (.seq (.ops [m s4 (.c (.bool true))]) .ret))))),false⟩
theorem e22 : cFn PP 22 = some a22 := by kernel_rfl
def a53 : AFn := ⟨59,[.tmp s2],(.seq (.ops [o s1 (.box 25) [.t s0],m s2 (.c (.bool false))]) (.seq (.ops [o s8 (.fieldAddr 5) [.t s1],o s9 (.load1) [.t s8],o s10 (.lenSl) [.t s9],o s3 (.alloc 3 [(vi 0)]) [],⟨none,(.prim (.store 1)),[.t s3,.t s10],none⟩]) (.seq (.seq (.ops [o s11 (.load1) [.t s3],⟨some s12,(.call 75),[.t s11,.c (vi 1),.c (vi 600)],none⟩,o s13 (.notB) [.t s12],m s14 (.t s13),⟨some s15,(.prim (.fieldAddr 6)),[.t s1],some (s14,false)⟩,⟨some s16,(.prim (.load1)),[.t s15],some (s14,false)⟩,⟨some s17,(.prim (.lenSl)),[.t s16],some (s14,false)⟩,⟨some s18,(.prim (.iop .gtr)),[.t s17,.c (vi 40)],some (s14,false)⟩,o s19 (.pick) [.t s14,.c (.bool true),.t s18],m s20 (.t s19),⟨some s21,(.prim (.fieldAddr 3)),[.t s1],some (s20,false)⟩,⟨some s22,(.prim (.load1)),[.t s21],some (s20,false)⟩,⟨some s23,(.call 75),[.t s22,.c (vi 0),.c (vi 200)],some (s20,false)⟩,⟨some s24,(.prim (.notB)),[.t s23],some (s20,false)⟩,o s25 (.pick) [.t s20,.c (.bool true),.t s24],m s26 (.t s25),⟨some s27,(.prim (.fieldAddr 4)),[.t s1],some (s26,false)⟩,⟨some s28,(.prim (.load1)),[.t s27],some (s26,false)⟩,⟨some s29,(.call 75),[.t s28,.c (vi 0),.c (vi 200)],some (s26,false)⟩,⟨some s30,(.prim (.notB)),[.t s29],some (s26,false)⟩,o s31 (.pick) [.t s26,.c (.bool true),.t s30]]) (.cond (.t s31) (.seq (.ops [m s2 (.c (.bool false))]) .ret) .skip)) (.seq (.seq (.ops [o s32 (.fieldAddr 5) [.t s1],o s33 (.load1) [.t s32],o s34 (.lenSl) [.t s33],m s35 (.c (vi 0))]) (.block 0 (.loop (.seq (.ops [o s36 (.iop .lss) [.t s35,.t s34]]) (.seq (.cond (.t s36) .skip (.exit 0)) (.seq (.block 1 (.seq (.ops [o s37 (.idxSlice 4) [.t s33,.t s35],o s38 (.loadN 4) [.t s37],o s5 (.alloc 67 [(vi 0), (vi 0), (vi 0), (vi 0)]) [],⟨none,(.prim (.store 4)),[.t s5,.t s38],none⟩]) (.seq (.ops [o s40 (.fieldAddr 0) [.t s5],o s41 (.load1) [.t s40],⟨some s42,(.call 84),[.t s41],none⟩,m s39 (.t s42),o s43 (.extract 0) [.t s39],o s44 (.extract 1) [.t s39],o s6 (.alloc 138 [(bs []), (vi 0), (vi 0), (vi 0), (vi 0), (vi 0), (vi 0), (.bool false), (.bool false)]) [],⟨none,(.prim (.store 9)),[.t s6,.t s43],none⟩,m s7 (.t s44)]) (.seq (.ops [m s45 (.t s7),o s46 (.notB) [.t s45],m s47 (.t s46),⟨some s48,(.prim (.loadN 4)),[.t s5],some (s47,false)⟩,⟨some s49,(.call 101),[.t s48],some (s47,false)⟩,⟨some s50,(.prim (.mkFunc (.func 102) 0)),[.t s3],some (s47,false)⟩,⟨some s51,(.call 100),[.t s49,.t s50],some (s47,false)⟩,o s52 (.pick) [.t s47,.c (.bool true),.t s51]]) (.cond (.t s52) (.seq (.ops [m s2 (.c (.bool false))]) .ret) .skip))))) (.ops [o s53 (.iop .add) [.t s35,.c (vi 1)],m s35 (.t s53)]))))))) (.seq (.ops [o s54 (.fieldAddr 6) [.t s1],o s55 (.load1) [.t s54],o s56 (.mkFunc (.func 104) 0) [.t s3],⟨some s57,(.call 103),[.t s55,.t s56],none⟩,o s58 (.notB) [.t s57],m s2 (.t s58)]) .ret))))),false⟩
theorem e53 : cFn PP 53 = some a53 := by kernel_rfl
def a55 : AFn := ⟨107,[.tmp s2],(.seq (.ops [o s1 (.box 25) [.t s0],m s2 (.c (.bool false))]) (.seq (.ops [o s11 (.fieldAddr 5) [.t s1],o s12 (.load1) [.t s11],o s13 (.lenSl) [.t s12],m s3 (.t s13)]) (.seq (.seq (.ops [m s14 (.t s3),⟨some s15,(.call 58),[.t s14,.c (vi 1),.c (vi 600)],none⟩,o s16 (.notB) [.t s15],m s17 (.t s16),⟨some s18,(.prim (.fieldAddr 6)),[.t s1],some (s17,false)⟩,⟨some s19,(.prim (.load1)),[.t s18],some (s17,false)⟩,⟨some s20,(.prim (.lenSl)),[.t s19],some (s17,false)⟩,⟨some s21,(.prim (.iop .gtr)),[.t s20,.c (vi 40)],some (s17,false)⟩,o s22 (.pick) [.t s17,.c (.bool true),.t s21],m s23 (.t s22),⟨some s24,(.prim (.fieldAddr 3)),[.t s1],some (s23,false)⟩,⟨some s25,(.prim (.load1)),[.t s24],some (s23,false)⟩,⟨some s26,(.call 58),[.t s25,.c (vi 0),.c (vi 200)],some (s23,false)⟩,⟨some s27,(.prim (.notB)),[.t s26],some (s23,false)⟩,o s28 (.pick) [.t s23,.c (.bool true),.t s27],m s29 (.t s28),⟨some s30,(.prim (.fieldAddr 4)),[.t s1],some (s29,false)⟩,⟨some s31,(.prim (.load1)),[.t s30],some (s29,false)⟩,⟨some s32,(.call 58),[.t s31,.c (vi 0),.c (vi 200)],some (s29,false)⟩,⟨some s33,(.prim (.notB)),[.t s32],some (s29,false)⟩,o s34 (.pick) [.t s29,.c (.bool true),.t s33]]) (.cond (.t s34) (.seq (.ops [m s2 (.c (.bool false))]) .ret) .skip)) (.seq (.seq (.ops [m s4 (.c (vi 0))]) (.block 0 (.loop (.seq (.seq (.ops [m s35 (.t s4),m s36 (.t s3),o s37 (.iop .lss) [.t s35,.t s36]]) (.cond (.t s37) .skip (.exit 0))) (.seq (.block 1 (.seq (.ops [o s41 (.fieldAddr 5) [.t s1],o s42 (.load1) [.t s41],m s43 (.t s4),o s44 (.idxSlice 4) [.t s42,.t s43],o s45 (.fieldAddr 0) [.t s44],o s46 (.load1) [.t s45],⟨some s47,(.call 88),[.t s46],none⟩,m s40 (.t s47),o s48 (.extract 0) [.t s40],o s49 (.extract 1) [.t s40],o s5 (.alloc 148 [(vi 0), (vi 0), (vi 0), (vi 0), (vi 0), (vi 0), (.bool false)]) [],⟨none,(.prim (.store 7)),[.t s5,.t s48],none⟩,m s6 (.t s49)]) (.seq (.ops [o s51 (.fieldAddr 5) [.t s1],o s52 (.load1) [.t s51],m s53 (.t s4),o s54 (.idxSlice 4) [.t s52,.t s53],o s55 (.loadN 4) [.t s54],⟨some s56,(.call 57),[.t s55],none⟩,m s50 (.t s56),o s57 (.extract 0) [.t s50],o s58 (.extract 1) [.t s50],m s7 (.t s57),m s8 (.t s58)]) (.seq (.ops [m s59 (.t s6),o s60 (.notB) [.t s59],m s61 (.t s60),⟨some s62,(.prim (.move)),[.t s8],some (s61,false)⟩,⟨some s63,(.prim (.move)),[.t s62],some (s61,false)⟩,⟨some s64,(.prim (.move)),[.t s7],some (s63,true)⟩,⟨some s65,(.prim (.move)),[.t s3],some (s63,true)⟩,⟨some s66,(.prim (.iop .sub)),[.t s65,.c (vi 1)],some (s63,true)⟩,⟨some s67,(.call 58),[.t s64,.c (vi 0),.t s66],some (s63,true)⟩,⟨some s68,(.prim (.notB)),[.t s67],some (s63,true)⟩,⟨some s69,(.prim (.pick)),[.t s63,.t s68,.c (.bool false)],some (s61,false)⟩,o s70 (.pick) [.t s61,.c (.bool true),.t s69]]) (.cond (.t s70) (.seq (.ops [m s2 (.c (.bool false))]) .ret) .skip))))) (.ops [m s38 (.t s4),o s39 (.iop .add) [.t s38,.c (vi 1)],m s4 (.t s39)])))))) (.seq (.seq (.ops [m s9 (.c (vi 0))]) (.block 2 (.loop (.seq (.seq (.ops [m s71 (.t s9),o s72 (.fieldAddr 6) [.t s1],o s73 (.load1) [.t s72],o s74 (.lenSl) [.t s73],o s75 (.iop .lss) [.t s71,.t s74]]) (.cond (.t s75) .skip (.exit 2))) (.seq (.block 3 (.seq (.ops [o s78 (.fieldAddr 6) [.t s1],o s79 (.load1) [.t s78],m s80 (.t s9),o s81 (.idxSlice 3) [.t s79,.t s80],o s82 (.loadN 3) [.t s81],o s10 (.alloc 79 [(vi 0), (vi 0), (vi 0)]) [],⟨none,(.prim (.store 3)),[.t s10,.t s82],none⟩]) (.seq (.ops [o s83 (.fieldAddr 0) [.t s10],o s84 (.load1) [.t s83],o s85 (.iop .lss) [.t s84,.c (vi 0)],m s86 (.t s85),⟨some s87,(.prim (.fieldAddr 0)),[.t s10],some (s86,false)⟩,⟨some s88,(.prim (.load1)),[.t s87],some (s86,false)⟩,⟨some s89,(.prim (.fieldAddr 1)),[.t s10],some (s86,false)⟩,⟨some s90,(.prim (.load1)),[.t s89],some (s86,false)⟩,⟨some s91,(.prim (.iop .geq)),[.t s88,.t s90],some (s86,false)⟩,o s92 (.pick) [.t s86,.c (.bool true),.t s91],m s93 (.t s92),⟨some s94,(.prim (.fieldAddr 1)),[.t s10],some (s93,false)⟩,⟨some s95,(.prim (.load1)),[.t s94],some (s93,false)⟩,⟨some s96,(.prim (.move)),[.t s3],some (s93,false)⟩,⟨some s97,(.prim (.iop .gtr)),[.t s95,.t s96],some (s93,false)⟩,o s98 (.pick) [.t s93,.c (.bool true),.t s97],m s99 (.t s98),⟨some s100,(.prim (.fieldAddr 2)),[.t s10],some (s99,false)⟩,⟨some s101,(.prim (.load1)),[.t s100],some (s99,false)⟩,⟨some s102,(.prim (.move)),[.t s3],some (s99,false)⟩,⟨some s103,(.prim (.iop .sub)),[.t s102,.c (vi 1)],some (s99,false)⟩,⟨some s104,(.call 58),[.t s101,.c (vi 0),.t s103],some (s99,false)⟩,⟨some s105,(.prim (.notB)),[.t s104],some (s99,false)⟩,o s106 (.pick) [.t s99,.c (.bool true),.t s105]]) (.cond (.t s106) (.seq (.ops [m s2 (.c (.bool false))]) .ret) .skip)))) (.ops [m s76 (.t s9),o s77 (.iop .add) [.t s76,.c (vi 1)],m s9 (.t s77)])))))) (.seq (.ops [m s2 (.c (.bool true))]) .ret)))))),false⟩
theorem e55 : cFn PP 55 = some a55 := by kernel_rfl
def a57 : AFn := ⟨19,[.tmp s2,.tmp s3],(.seq (.ops [o s1 (.box 67) [.t s0],m s2 (.c (vi 0)),m s3 (.c (.bool false))]) (.seq (.seq (.ops [o s4 (.fieldAddr 0) [.t s1],o s5 (.load1) [.t s4],o s6 (.iop .eql) [.t s5,.c (vi 24)]]) (.cond (.t s6) (.seq (.ops [o s7 (.fieldAddr 1) [.t s1],o s8 (.load1) [.t s7],m s2 (.t s8),m s3 (.c (.bool true))]) .ret) .skip)) (.seq (.seq (.ops [o s9 (.fieldAddr 0) [.t s1],o s10 (.load1) [.t s9],o s11 (.iop .eql) [.t s10,.c (vi 25)],m s12 (.t s11),⟨some s13,(.prim (.fieldAddr 0)),[.t s1],some (s12,false)⟩,⟨some s14,(.prim (.load1)),[.t s13],some (s12,false)⟩,⟨some s15,(.prim (.iop .eql)),[.t s14,.c (vi 32)],some (s12,false)⟩,o s16 (.pick) [.t s12,.c (.bool true),.t s15]]) (.cond (.t s16) (.seq (.ops [o s17 (.fieldAddr 2) [.t s1],o s18 (.load1) [.t s17],m s2 (.t s18),m s3 (.c (.bool true))]) .ret) .skip)) (.seq (.ops [m s2 (.c (vi 0)),m s3 (.c (.bool false))]) .ret)))),false⟩
theorem e57 : cFn PP 57 = some a57 := by kernel_rfl
def a58 : AFn := ⟨15,[.tmp s6],(.seq (.ops [m s6 (.c (.bool false))]) (.seq (.ops [m s7 (.t s1),m s8 (.t s0),o s9 (.iop .leq) [.t s7,.t s8],m s10 (.t s9),⟨some s11,(.prim (.move)),[.t s0],some (s10,true)⟩,⟨some s12,(.prim (.move)),[.t s2],some (s10,true)⟩,⟨some s13,(.prim (.iop .leq)),[.t s11,.t s12],some (s10,true)⟩,o s14 (.pick) [.t s10,.t s13,.c (.bool false)],m s6 (.t s14)]) .ret)),false⟩
theorem e58 : cFn PP 58 = some a58 := by kernel_rfl
def a65 : AFn := ⟨8,[.tmp s2],(.seq (.ops [m s2 (.c nilS)]) (.seq (.seq (.ops [m s3 (.t s0),o s4 (.eqNil 1 false) [.t s3,.c nilS]]) (.cond (.t s4) (.seq (.ops [m s2 (.c nilS)]) .ret) .skip)) (.seq (.ops [o s5 (.buildSlice 3 0 [] []) [],m s6 (.t s0),o s7 (.append 3 1 [(vi 0)]) [.t s5,.t s6],m s2 (.t s7)]) .ret))),false⟩
theorem e65 : cFn PP 65 = some a65 := by kernel_rfl
def a75 : AFn := ⟨15,[.tmp s6],(.seq (.ops [m s6 (.c (.bool false))]) (.seq (.ops [m s7 (.t s1),m s8 (.t s0),o s9 (.iop .leq) [.t s7,.t s8],m s10 (.t s9),⟨some s11,(.prim (.move)),[.t s0],some (s10,true)⟩,⟨some s12,(.prim (.move)),[.t s2],some (s10,true)⟩,⟨some s13,(.prim (.iop .leq)),[.t s11,.t s12],some (s10,true)⟩,o s14 (.pick) [.t s10,.t s13,.c (.bool false)],m s6 (.t s14)]) .ret)),false⟩
theorem e75 : cFn PP 75 = some a75 := by kernel_rfl
def a84 : AFn := ⟨14,[.cell s2 (some 9),.tmp s3],(.seq (.ops [o s2 (.alloc 138 [(bs []), (vi 0), (vi 0), (vi 0), (vi 0), (vi 0), (vi 0), (.bool false), (.bool false)]) [],m s3 (.c (.bool false))]) (.seq (.seq (.ops [m s4 (.t s0),o s5 (.iop .lss) [.t s4,.c (vi 1)],m s6 (.t s5),⟨some s7,(.prim (.move)),[.t s0],some (s6,false)⟩,⟨some s8,(.prim (.iop .gtr)),[.t s7,.c (vi 34)],some (s6,false)⟩,o s9 (.pick) [.t s6,.c (.bool true),.t s8]]) (.cond (.t s9) (.seq (.ops [o s10 (.build [(bs []), (vi 0), (vi 0), (vi 0), (vi 0), (vi 0), (vi 0), (.bool false), (.bool false)] []) [],⟨none,(.prim (.store 9)),[.t s2,.t s10],none⟩,m s3 (.c (.bool false))]) .ret) .skip)) (.seq (.ops [⟨some s11,(.call 120),[],none⟩,m s12 (.t s0),o s13 (.indexN 35 9) [.t s11,.t s12],⟨none,(.prim (.store 9)),[.t s2,.t s13],none⟩,m s3 (.c (.bool true))]) .ret))),false⟩
theorem e84 : cFn PP 84 = some a84 := by kernel_rfl
end Go.Ve.T
namespace Go.Ve.T
open Go.Ve Go.Proofs
def a87 : AFn := ⟨10,[.cell s2 (some 3)],(.seq (.ops [o s1 (.box 67) [.t s0],o s2 (.alloc 135 [(vi 0), (vi 0), (vi 0)]) []]) (.seq (.ops [o s3 (.fieldAddr 1) [.t s1],o s4 (.load1) [.t s3],o s5 (.fieldAddr 2) [.t s1],o s6 (.load1) [.t s5],o s7 (.fieldAddr 3) [.t s1],o s8 (.load1) [.t s7],o s9 (.buildAll [1, 1, 1]) [.t s4,.t s6,.t s8],⟨none,(.prim (.store 3)),[.t s2,.t s9],none⟩]) .ret)),false⟩
theorem e87 : cFn PP 87 = some a87 := by kernel_rfl
def a88 : AFn := ⟨125,[.cell s2 (some 7),.tmp s3],(.seq (.ops [o s2 (.alloc 148 [(vi 0), (vi 0), (vi 0), (vi 0), (vi 0), (vi 0), (.bool false)]) [],m s3 (.c (.bool false))]) (.seq (.seq (.ops [m s4 (.t s0)]) (.block 0 (.seq (.ops [o s6 (.iop .eql) [.t s4,.c (vi 1)],m s5 (.t s6)]) (.cond (.t s5) (.seq (.ops [o s7 (.buildAll [1, 1, 1]) [.c (vi 1),.c (vi 3),.c (vi 0)],o s8 (.build [(vi 0), (vi 0), (vi 0), (vi 0), (vi 0), (vi 0), (.bool false)] [(0,3), (3,1)]) [.t s7,.c (vi 1)],⟨none,(.prim (.store 7)),[.t s2,.t s8],none⟩,m s3 (.c (.bool true))]) .ret) (.seq (.ops [o s10 (.iop .eql) [.t s4,.c (vi 2)],m s9 (.t s10)]) (.cond (.t s9) (.seq (.ops [o s11 (.buildAll [1, 1, 1]) [.c (vi 1),.c (vi 4),.c (vi 0)],o s12 (.build [(vi 0), (vi 0), (vi 0), (vi 0), (vi 0), (vi 0), (.bool false)] [(0,3), (3,1)]) [.t s11,.c (vi 1)],⟨none,(.prim (.store 7)),[.t s2,.t s12],none⟩,m s3 (.c (.bool true))]) .ret) (.seq (.seq (.ops [o s14 (.iop .eql) [.t s4,.c (vi 3)],m s13 (.t s14)]) (.cond (.t s13) .skip (.ops [o s15 (.iop .eql) [.t s4,.c (vi 5)],m s13 (.t s15)]))) (.cond (.t s13) (.seq (.ops [o s16 (.buildAll [1, 1, 1]) [.c (vi 1),.c (vi 0),.c (vi 0)],o s17 (.build [(vi 0), (vi 0), (vi 0), (vi 0), (vi 0), (vi 0), (.bool false)] [(0,3), (3,1)]) [.t s16,.c (vi 1)],⟨none,(.prim (.store 7)),[.t s2,.t s17],none⟩,m s3 (.c (.bool true))]) .ret) (.seq (.seq (.ops [o s19 (.iop .eql) [.t s4,.c (vi 4)],m s18 (.t s19)]) (.cond (.t s18) .skip (.seq (.ops [o s20 (.iop .eql) [.t s4,.c (vi 11)],m s18 (.t s20)]) (.cond (.t s18) .skip (.seq (.ops [o s21 (.iop .eql) [.t s4,.c (vi 15)],m s18 (.t s21)]) (.cond (.t s18) .skip (.ops [o s22 (.iop .eql) [.t s4,.c (vi 16)],m s18 (.t s22)]))))))) (.cond (.t s18) (.seq (.ops [o s23 (.buildAll [1, 1, 1]) [.c (vi 1),.c (vi 1),.c (vi 0)],o s24 (.buildAll [1, 1]) [.c (vi 2),.c (vi 0)],o s25 (.build [(vi 0), (vi 0), (vi 0), (vi 0), (vi 0), (vi 0), (.bool false)] [(0,3), (3,1), (4,2)]) [.t s23,.c (vi 1),.t s24],⟨none,(.prim (.store 7)),[.t s2,.t s25],none⟩,m s3 (.c (.bool true))]) .ret) (.seq (.seq (.ops [o s27 (.iop .eql) [.t s4,.c (vi 6)],m s26 (.t s27)]) (.cond (.t s26) .skip (.seq (.ops [o s28 (.iop .eql) [.t s4,.c (vi 7)],m s26 (.t s28)]) (.cond (.t s26) .skip (.seq (.ops [o s29 (.iop .eql) [.t s4,.c (vi 8)],m s26 (.t s29)]) (.cond (.t s26) .skip (.seq (.ops [o s30 (.iop .eql) [.t s4,.c (vi 9)],m s26 (.t s30)]) (.cond (.t s26) .skip (.ops [o s31 (.iop .eql) [.t s4,.c (vi 10)],m s26 (.t s31)]))))))))) (.cond (.t s26) (.seq (.ops [o s32 (.buildAll [1, 1, 1]) [.c (vi 1),.c (vi 1),.c (vi 1)],o s33 (.buildAll [1, 1]) [.c (vi 2),.c (vi 3)],o s34 (.buildAll [3, 1, 2, 1]) [.t s32,.c (vi 1),.t s33,.c (.bool true)],⟨none,(.prim (.store 7)),[.t s2,.t s34],none⟩,m s3 (.c (.bool true))]) .ret) (.seq (.seq (.ops [o s36 (.iop .eql) [.t s4,.c (vi 12)],m s35 (.t s36)]) (.cond (.t s35) .skip (.seq (.ops [o s37 (.iop .eql) [.t s4,.c (vi 13)],m s35 (.t s37)]) (.cond (.t s35) .skip (.ops [o s38 (.iop .eql) [.t s4,.c (vi 14)],m s35 (.t s38)]))))) (.cond (.t s35) (.seq (.ops [o s39 (.buildAll [1, 1, 1]) [.c (vi 1),.c (vi 1),.c (vi 1)],o s40 (.buildAll [1, 1]) [.c (vi 2),.c (vi 3)],o s41 (.build [(vi 0), (vi 0), (vi 0), (vi 0), (vi 0), (vi 0), (.bool false)] [(0,3), (3,1), (4,2)]) [.t s39,.c (vi 1),.t s40],⟨none,(.prim (.store 7)),[.t s2,.t s41],none⟩,m s3 (.c (.bool true))]) .ret) (.seq (.ops [o s43 (.iop .eql) [.t s4,.c (vi 17)],m s42 (.t s43)]) (.cond (.t s42) (.seq (.ops [o s44 (.buildAll [1, 1, 1]) [.c (vi 1),.c (vi 2),.c (vi 5)],o s45 (.buildAll [1, 1]) [.c (vi 2),.c (vi 0)],o s46 (.buildAll [3, 1, 2, 1]) [.t s44,.c (vi 1),.t s45,.c (.bool true)],⟨none,(.prim (.store 7)),[.t s2,.t s46],none⟩,m s3 (.c (.bool true))]) .ret) (.seq (.ops [o s48 (.iop .eql) [.t s4,.c (vi 18)],m s47 (.t s48)]) (.cond (.t s47) (.seq (.ops [o s49 (.buildAll [1, 1, 1]) [.c (vi 5),.c (vi 1),.c (vi 0)],o s50 (.buildAll [1, 1]) [.c (vi 2),.c (vi 0)],o s51 (.build [(vi 0), (vi 0), (vi 0), (vi 0), (vi 0), (vi 0), (.bool false)] [(0,3), (4,2)]) [.t s49,.t s50],⟨none,(.prim (.store 7)),[.t s2,.t s51],none⟩,m s3 (.c (.bool true))]) .ret) (.seq (.ops [o s53 (.iop .eql) [.t s4,.c (vi 19)],m s52 (.t s53)]) (.cond (.t s52) (.seq (.ops [o s54 (.buildAll [1, 1, 1]) [.c (vi 6),.c (vi 1),.c (vi 0)],o s55 (.buildAll [1, 1]) [.c (vi 2),.c (vi 0)],o s56 (.build [(vi 0), (vi 0), (vi 0), (vi 0), (vi 0), (vi 0), (.bool false)] [(0,3), (4,2)]) [.t s54,.t s55],⟨none,(.prim (.store 7)),[.t s2,.t s56],none⟩,m s3 (.c (.bool true))]) .ret) (.seq (.ops [o s58 (.iop .eql) [.t s4,.c (vi 20)],m s57 (.t s58)]) (.cond (.t s57) (.seq (.ops [o s59 (.buildAll [1, 1, 1]) [.c (vi 7),.c (vi 2),.c (vi 8)],o s60 (.buildAll [1, 1]) [.c (vi 2),.c (vi 0)],o s61 (.buildAll [3, 1, 2, 1]) [.t s59,.c (vi 1),.t s60,.c (.bool true)],⟨none,(.prim (.store 7)),[.t s2,.t s61],none⟩,m s3 (.c (.bool true))]) .ret) (.seq (.ops [o s63 (.iop .eql) [.t s4,.c (vi 21)],m s62 (.t s63)]) (.cond (.t s62) (.seq (.ops [o s64 (.buildAll [1, 1, 1]) [.c (vi 1),.c (vi 9),.c (vi 4)],o s65 (.build [(vi 0), (vi 0), (vi 0), (vi 0), (vi 0), (vi 0), (.bool false)] [(0,3), (3,1), (6,1)]) [.t s64,.c (vi 1),.c (.bool true)],⟨none,(.prim (.store 7)),[.t s2,.t s65],none⟩,m s3 (.c (.bool true))]) .ret) (.seq (.ops [o s67 (.iop .eql) [.t s4,.c (vi 22)],m s66 (.t s67)]) (.cond (.t s66) (.seq (.ops [o s68 (.buildAll [1, 1, 1]) [.c (vi 1),.c (vi 10),.c (vi 0)],o s69 (.buildAll [1, 1]) [.c (vi 1),.c (vi 0)],o s70 (.build [(vi 0), (vi 0), (vi 0), (vi 0), (vi 0), (vi 0), (.bool false)] [(0,3), (4,2), (6,1)]) [.t s68,.t s69,.c (.bool true)],⟨none,(.prim (.store 7)),[.t s2,.t s70],none⟩,m s3 (.c (.bool true))]) .ret) (.seq (.ops [o s72 (.iop .eql) [.t s4,.c (vi 23)],m s71 (.t s72)]) (.cond (.t s71) (.seq (.ops [o s73 (.buildAll [1, 1, 1]) [.c (vi 2),.c (vi 0),.c (vi 0)],o s74 (.buildAll [1, 1]) [.c (vi 1),.c (vi 0)],o s75 (.build [(vi 0), (vi 0), (vi 0), (vi 0), (vi 0), (vi 0), (.bool false)] [(0,3), (4,2), (6,1)]) [.t s73,.t s74,.c (.bool true)],⟨none,(.prim (.store 7)),[.t s2,.t s75],none⟩,m s3 (.c (.bool true))]) .ret) (.seq (.ops [o s77 (.iop .eql) [.t s4,.c (vi 24)],m s76 (.t s77)]) (.cond (.t s76) (.seq (.ops [o s78 (.buildAll [1, 1, 1]) [.c (vi 11),.c (vi 0),.c (vi 0)],o s79 (.build [(vi 0), (vi 0), (vi 0), (vi 0), (vi 0), (vi 0), (.bool false)] [(0,3)]) [.t s78],⟨none,(.prim (.store 7)),[.t s2,.t s79],none⟩,m s3 (.c (.bool true))]) .ret) (.seq (.ops [o s81 (.iop .eql) [.t s4,.c (vi 25)],m s80 (.t s81)]) (.cond (.t s80) (.seq (.ops [o s82 (.buildAll [1, 1, 1]) [.c (vi 1),.c (vi 11),.c (vi 0)],o s83 (.buildAll [1, 1]) [.c (vi 1),.c (vi 0)],o s84 (.build [(vi 0), (vi 0), (vi 0), (vi 0), (vi 0), (vi 0), (.bool false)] [(0,3), (4,2)]) [.t s82,.t s83],⟨none,(.prim (.store 7)),[.t s2,.t s84],none⟩,m s3 (.c (.bool true))]) .ret) (.seq (.ops [o s86 (.iop .eql) [.t s4,.c (vi 26)],m s85 (.t s86)]) (.cond (.t s85) (.seq (.ops [o s87 (.buildAll [1, 1, 1]) [.c (vi 12),.c (vi 0),.c (vi 0)],o s88 (.build [(vi 0), (vi 0), (vi 0), (vi 0), (vi 0), (vi 0), (.bool false)] [(0,3), (6,1)]) [.t s87,.c (.bool true)],⟨none,(.prim (.store 7)),[.t s2,.t s88],none⟩,m s3 (.c (.bool true))]) .ret) (.seq (.ops [o s90 (.iop .eql) [.t s4,.c (vi 27)],m s89 (.t s90)]) (.cond (.t s89) (.seq (.ops [o s91 (.build [(vi 0), (vi 0), (vi 0), (vi 0), (vi 0), (vi 0), (.bool false)] [(6,1)]) [.c (.bool true)],⟨none,(.prim (.store 7)),[.t s2,.t s91],none⟩,m s3 (.c (.bool true))]) .ret) (.seq (.ops [o s93 (.iop .eql) [.t s4,.c (vi 28)],m s92 (.t s93)]) (.cond (.t s92) (.seq (.ops [o s94 (.buildAll [1, 1, 1]) [.c (vi 2),.c (vi 0),.c (vi 0)],o s95 (.buildAll [1, 1]) [.c (vi 1),.c (vi 0)],o s96 (.build [(vi 0), (vi 0), (vi 0), (vi 0), (vi 0), (vi 0), (.bool false)] [(0,3), (4,2)]) [.t s94,.t s95],⟨none,(.prim (.store 7)),[.t s2,.t s96],none⟩,m s3 (.c (.bool true))]) .ret) (.seq (.ops [o s98 (.iop .eql) [.t s4,.c (vi 29)],m s97 (.t s98)]) (.cond (.t s97) (.seq (.ops [o s99 (.buildAll [1, 1, 1]) [.c (vi 1),.c (vi 0),.c (vi 0)],o s100 (.buildAll [1, 1]) [.c (vi 1),.c (vi 0)],o s101 (.build [(vi 0), (vi 0), (vi 0), (vi 0), (vi 0), (vi 0), (.bool false)] [(0,3), (4,2)]) [.t s99,.t s100],⟨none,(.prim (.store 7)),[.t s2,.t s101],none⟩,m s3 (.c (.bool true))]) .ret) (.seq (.ops [o s103 (.iop .eql) [.t s4,.c (vi 30)],m s102 (.t s103)]) (.cond (.t s102) (.seq (.ops [o s104 (.buildAll [1, 1, 1]) [.c (vi 1),.c (vi 0),.c (vi 0)],o s105 (.buildAll [1, 1]) [.c (vi 1),.c (vi 0)],o s106 (.build [(vi 0), (vi 0), (vi 0), (vi 0), (vi 0), (vi 0), (.bool false)] [(0,3), (4,2), (6,1)]) [.t s104,.t s105,.c (.bool true)],⟨none,(.prim (.store 7)),[.t s2,.t s106],none⟩,m s3 (.c (.bool true))]) .ret) (.seq (.ops [o s108 (.iop .eql) [.t s4,.c (vi 31)],m s107 (.t s108)]) (.cond (.t s107) (.seq (.ops [o s109 (.build [(vi 0), (vi 0), (vi 0), (vi 0), (vi 0), (vi 0), (.bool false)] []) [],⟨none,(.prim (.store 7)),[.t s2,.t s109],none⟩,m s3 (.c (.bool true))]) .ret) (.seq (.ops [o s111 (.iop .eql) [.t s4,.c (vi 32)],m s110 (.t s111)]) (.cond (.t s110) (.seq (.ops [o s112 (.buildAll [1, 1, 1]) [.c (vi 1),.c (vi 11),.c (vi 0)],o s113 (.buildAll [1, 1]) [.c (vi 1),.c (vi 0)],o s114 (.build [(vi 0), (vi 0), (vi 0), (vi 0), (vi 0), (vi 0), (.bool false)] [(0,3), (4,2), (6,1)]) [.t s112,.t s113,.c (.bool true)],⟨none,(.prim (.store 7)),[.t s2,.t s114],none⟩,m s3 (.c (.bool true))]) .ret) (.seq (.ops [o s116 (.iop .eql) [.t s4,.c (vi 33)],m s115 (.t s116)]) (.cond (.t s115) (.seq (.ops [o s117 (.buildAll [1, 1, 1]) [.c (vi 1),.c (vi 13),.c (vi 0)],o s118 (.build [(vi 0), (vi 0), (vi 0), (vi 0), (vi 0), (vi 0), (.bool false)] [(0,3), (3,1)]) [.t s117,.c (vi 1)],⟨none,(.prim (.store 7)),[.t s2,.t s118],none⟩,m s3 (.c (.bool true))]) .ret) (.seq (.ops [o s120 (.iop .eql) [.t s4,.c (vi 34)],m s119 (.t s120)]) (.cond (.t s119) (.seq (.ops [o s121 (.buildAll [1, 1, 1]) [.c (vi 13),.c (vi 1),.c (vi 0)],o s122 (.buildAll [1, 1]) [.c (vi 2),.c (vi 0)],o s123 (.build [(vi 0), (vi 0), (vi 0), (vi 0), (vi 0), (vi 0), (.bool false)] [(0,3), (4,2)]) [.t s121,.t s122],⟨none,(.prim (.store 7)),[.t s2,.t s123],none⟩,m s3 (.c (.bool true))]) .ret) .skip)))))))))))))))))))))))))))))))))))))))))))))))))) (.seq (.ops [o s124 (.build [(vi 0), (vi 0), (vi 0), (vi 0), (vi 0), (vi 0), (.bool false)] []) [],⟨none,(.prim (.store 7)),[.t s2,.t s124],none⟩,m s3 (.c (.bool false))]) .ret))),false⟩
theorem e88 : cFn PP 88 = some a88 := by kernel_rfl
def a100 : AFn := ⟨9,[.tmp s4],(.seq (.ops [m s4 (.c (.bool false))]) (.seq (.ops [m s5 (.t s0),m s6 (.t s1),⟨some s7,(.call 134),[.t s5,.t s6],none⟩,o s8 (.iop .geq) [.t s7,.c (vi 0)],m s4 (.t s8)]) .ret)),false⟩
theorem e100 : cFn PP 100 = some a100 := by kernel_rfl
def a101 : AFn := ⟨31,[.tmp s2],(.seq (.ops [o s1 (.box 67) [.t s0],m s2 (.c nilS)]) (.seq (.ops [o s9 (.fieldAddr 0) [.t s1],o s10 (.load1) [.t s9],⟨some s11,(.call 84),[.t s10],none⟩,m s8 (.t s11),o s12 (.extract 0) [.t s8],o s13 (.extract 1) [.t s8],o s3 (.alloc 138 [(bs []), (vi 0), (vi 0), (vi 0), (vi 0), (vi 0), (vi 0), (.bool false), (.bool false)]) [],⟨none,(.prim (.store 9)),[.t s3,.t s12],none⟩,m s4 (.t s13)]) (.seq (.ops [m s5 (.c nilS)]) (.seq (.seq (.ops [o s14 (.fieldAddr 1) [.t s3],o s15 (.loadN 3) [.t s14],m s16 (.c (vi 0))]) (.block 0 (.loop (.seq (.ops [o s17 (.iop .lss) [.t s16,.c (vi 3)]]) (.seq (.cond (.t s17) .skip (.exit 0)) (.seq (.block 1 (.seq (.ops [m s18 (.t s16),o s19 (.index1 3) [.t s15,.t s16],m s6 (.t s18),m s7 (.t s19)]) (.seq (.ops [m s20 (.t s7),o s21 (.iop .eql) [.t s20,.c (vi 3)]]) (.cond (.t s21) (.ops [m s22 (.t s5),o s23 (.loadN 4) [.t s1],⟨some s24,(.call 87),[.t s23],none⟩,m s25 (.t s6),o s26 (.index1 3) [.t s24,.t s25],o s27 (.buildSlice 3 1 [(vi 0)] [(0,1)]) [.t s26],o s28 (.append 3 1 [(vi 0)]) [.t s22,.t s27],m s5 (.t s28)]) .skip)))) (.ops [o s29 (.iop .add) [.t s16,.c (vi 1)],m s16 (.t s29)]))))))) (.seq (.ops [m s30 (.t s5),m s2 (.t s30)]) .ret))))),false⟩
theorem e101 : cFn PP 101 = some a101 := by kernel_rfl
def a102 : AFn := ⟨9,[.tmp s3],(.seq (.ops [m s3 (.c (.bool false))]) (.seq (.ops [m s4 (.t s0),o s5 (.load1) [.t s1],o s6 (.iop .sub) [.t s5,.c (vi 1)],⟨some s7,(.call 75),[.t s4,.c (vi 0),.t s6],none⟩,o s8 (.notB) [.t s7],m s3 (.t s8)]) .ret)),false⟩
theorem e102 : cFn PP 102 = some a102 := by kernel_rfl
def a103 : AFn := ⟨9,[.tmp s4],(.seq (.ops [m s4 (.c (.bool false))]) (.seq (.ops [m s5 (.t s0),m s6 (.t s1),⟨some s7,(.call 123),[.t s5,.t s6],none⟩,o s8 (.iop .geq) [.t s7,.c (vi 0)],m s4 (.t s8)]) .ret)),false⟩
theorem e103 : cFn PP 103 = some a103 := by kernel_rfl
def a104 : AFn := ⟨28,[.tmp s3],(.seq (.ops [o s2 (.box 79) [.t s0],m s3 (.c (.bool false))]) (.seq (.ops [o s4 (.fieldAddr 0) [.t s2],o s5 (.load1) [.t s4],o s6 (.iop .lss) [.t s5,.c (vi 0)],m s7 (.t s6),⟨some s8,(.prim (.fieldAddr 0)),[.t s2],some (s7,false)⟩,⟨some s9,(.prim (.load1)),[.t s8],some (s7,false)⟩,⟨some s10,(.prim (.fieldAddr 1)),[.t s2],some (s7,false)⟩,⟨some s11,(.prim (.load1)),[.t s10],some (s7,false)⟩,⟨some s12,(.prim (.iop .geq)),[.t s9,.t s11],some (s7,false)⟩,o s13 (.pick) [.t s7,.c (.bool true),.t s12],m s14 (.t s13),⟨some s15,(.prim (.fieldAddr 1)),[.t s2],some (s14,false)⟩,⟨some s16,(.prim (.load1)),[.t s15],some (s14,false)⟩,⟨some s17,(.prim (.load1)),[.t s1],some (s14,false)⟩,⟨some s18,(.prim (.iop .gtr)),[.t s16,.t s17],some (s14,false)⟩,o s19 (.pick) [.t s14,.c (.bool true),.t s18],m s20 (.t s19),⟨some s21,(.prim (.fieldAddr 2)),[.t s2],some (s20,false)⟩,⟨some s22,(.prim (.load1)),[.t s21],some (s20,false)⟩,⟨some s23,(.prim (.load1)),[.t s1],some (s20,false)⟩,⟨some s24,(.prim (.iop .sub)),[.t s23,.c (vi 1)],some (s20,false)⟩,⟨some s25,(.call 75),[.t s22,.c (vi 0),.t s24],some (s20,false)⟩,⟨some s26,(.prim (.notB)),[.t s25],some (s20,false)⟩,o s27 (.pick) [.t s20,.c (.bool true),.t s26],m s3 (.t s27)]) .ret)),false⟩
theorem e104 : cFn PP 104 = some a104 := by kernel_rfl
def a120 : AFn := ⟨104,[.cell s0 (some 315)],(.seq (.ops [o s0 (.alloc 182 [(bs []), (vi 0), (vi 0), (vi 0), (vi 0), (vi 0), (vi 0), (.bool false), (.bool false), (bs []), (vi 0), (vi 0), (vi 0), (vi 0), (vi 0), (vi 0), (.bool false), (.bool false), (bs []), (vi 0), (vi 0), (vi 0), (vi 0), (vi 0), (vi 0), (.bool false), (.bool false), (bs []), (vi 0), (vi 0), (vi 0), (vi 0), (vi 0), (vi 0), (.bool false), (.bool false), (bs []), (vi 0), (vi 0), (vi 0), (vi 0), (vi 0), (vi 0), (.bool false), (.bool false), (bs []), (vi 0), (vi 0), (vi 0), (vi 0), (vi 0), (vi 0), (.bool false), (.bool false), (bs []), (vi 0), (vi 0), (vi 0), (vi 0), (vi 0), (vi 0), (.bool false), (.bool false), (bs []), (vi 0), (vi 0), (vi 0), (vi 0), (vi 0), (vi 0), (.bool false), (.bool false), (bs []), (vi 0), (vi 0), (vi 0), (vi 0), (vi 0), (vi 0), (.bool false), (.bool false), (bs []), (vi 0), (vi 0), (vi 0), (vi 0), (vi 0), (vi 0), (.bool false), (.bool false), (bs []), (vi 0), (vi 0), (vi 0), (vi 0), (vi 0), (vi 0), (.bool false), (.bool false), (bs []), (vi 0), (vi 0), (vi 0), (vi 0), (vi 0), (vi 0), (.bool false), (.bool false), (bs []), (vi 0), (vi 0), (vi 0), (vi 0), (vi 0), (vi 0), (.bool false), (.bool false), (bs []), (vi 0), (vi 0), (vi 0), (vi 0), (vi 0), (vi 0), (.bool false), (.bool false), (bs []), (vi 0), (vi 0), (vi 0), (vi 0), (vi 0), (vi 0), (.bool false), (.bool false), (bs []), (vi 0), (vi 0), (vi 0), (vi 0), (vi 0), (vi 0), (.bool false), (.bool false), (bs []), (vi 0), (vi 0), (vi 0), (vi 0), (vi 0), (vi 0), (.bool false), (.bool false), (bs []), (vi 0), (vi 0), (vi 0), (vi 0), (vi 0), (vi 0), (.bool false), (.bool false), (bs []), (vi 0), (vi 0), (vi 0), (vi 0), (vi 0), (vi 0), (.bool false), (.bool false), (bs []), (vi 0), (vi 0), (vi 0), (vi 0), (vi 0), (vi 0), (.bool false), (.bool false), (bs []), (vi 0), (vi 0), (vi 0), (vi 0), (vi 0), (vi 0), (.bool false), (.bool false), (bs []), (vi 0), (vi 0), (vi 0), (vi 0), (vi 0), (vi 0), (.bool false), (.bool false), (bs []), (vi 0), (vi 0), (vi 0), (vi 0), (vi 0), (vi 0), (.bool false), (.bool false), (bs []), (vi 0), (vi 0), (vi 0), (vi 0), (vi 0), (vi 0), (.bool false), (.bool false), (bs []), (vi 0), (vi 0), (vi 0), (vi 0), (vi 0), (vi 0), (.bool false), (.bool false), (bs []), (vi 0), (vi 0), (vi 0), (vi 0), (vi 0), (vi 0), (.bool false), (.bool false), (bs []), (vi 0), (vi 0), (vi 0), (vi 0), (vi 0), (vi 0), (.bool false), (.bool false), (bs []), (vi 0), (vi 0), (vi 0), (vi 0), (vi 0), (vi 0), (.bool false), (.bool false), (bs []), (vi 0), (vi 0), (vi 0), (vi 0), (vi 0), (vi 0), (.bool false), (.bool false), (bs []), (vi 0), (vi 0), (vi 0), (vi 0), (vi 0), (vi 0), (.bool false), (.bool false), (bs []), (vi 0), (vi 0), (vi 0), (vi 0), (vi 0), (vi 0), (.bool false), (.bool false), (bs []), (vi 0), (vi 0), (vi 0), (vi 0), (vi 0), (vi 0), (.bool false), (.bool false), (bs []), (vi 0), (vi 0), (vi 0), (vi 0), (vi 0), (vi 0), (.bool false), (.bool false), (bs []), (vi 0), (vi 0), (vi 0), (vi 0), (vi 0), (vi 0), (.bool false), (.bool false), (bs []), (vi 0), (vi 0), (vi 0), (vi 0), (vi 0), (vi 0), (.bool false), (.bool false)]) []]) (.seq (.ops [o s1 (.buildAll [1, 1, 1]) [.c (vi 1),.c (vi 4),.c (vi 0)],o s2 (.build [(vi 0), (vi 0)] []) [],o s3 (.buildAll [1, 3, 1, 2, 1, 1]) [.c (bs [105, 110, 116]),.t s1,.c (vi 1),.t s2,.c (.bool false),.c (.bool false)],o s4 (.buildAll [1, 1, 1]) [.c (vi 1),.c (vi 5),.c (vi 0)],o s5 (.build [(vi 0), (vi 0)] []) [],o s6 (.buildAll [1, 3, 1, 2, 1, 1]) [.c (bs [98, 111, 111, 108]),.t s4,.c (vi 1),.t s5,.c (.bool false),.c (.bool false)],o s7 (.buildAll [1, 1, 1]) [.c (vi 1),.c (vi 0),.c (vi 0)],o s8 (.build [(vi 0), (vi 0)] []) [],o s9 (.buildAll [1, 3, 1, 2, 1, 1]) [.c (bs [118, 111, 105, 100]),.t s7,.c (vi 1),.t s8,.c (.bool false),.c (.bool false)],o s10 (.buildAll [1, 1, 1]) [.c (vi 1),.c (vi 1),.c (vi 0)],o s11 (.build [(vi 0), (vi 0)] [(0,1)]) [.c (vi 2)],o s12 (.buildAll [1, 3, 1, 2, 1, 1]) [.c (bs [109, 111, 118, 101]),.t s10,.c (vi 1),.t s11,.c (.bool false),.c (.bool false)],o s13 (.buildAll [1, 1, 1]) [.c (vi 1),.c (vi 0),.c (vi 0)],o s14 (.build [(vi 0), (vi 0)] []) [],o s15 (.buildAll [1, 3, 1, 2, 1, 1]) [.c (bs [115, 101, 108, 102]),.t s13,.c (vi 1),.t s14,.c (.bool false),.c (.bool false)],o s16 (.buildAll [1, 1, 1]) [.c (vi 1),.c (vi 1),.c (vi 1)],o s17 (.buildAll [1, 1]) [.c (vi 2),.c (vi 3)],o s18 (.buildAll [1, 3, 1, 2, 1, 1]) [.c (bs [97, 100, 100]),.t s16,.c (vi 1),.t s17,.c (.bool true),.c (.bool false)],o s19 (.buildAll [1, 1, 1]) [.c (vi 1),.c (vi 1),.c (vi 1)],o s20 (.buildAll [1, 1]) [.c (vi 2),.c (vi 3)],o s21 (.buildAll [1, 3, 1, 2, 1, 1]) [.c (bs [115, 117, 98]),.t s19,.c (vi 1),.t s20,.c (.bool true),.c (.bool false)],o s22 (.buildAll [1, 1, 1]) [.c (vi 1),.c (vi 1),.c (vi 1)],o s23 (.buildAll [1, 1]) [.c (vi 2),.c (vi 3)],o s24 (.buildAll [1, 3, 1, 2, 1, 1]) [.c (bs [109, 117, 108]),.t s22,.c (vi 1),.t s23,.c (.bool true),.c (.bool false)],o s25 (.buildAll [1, 1, 1]) [.c (vi 1),.c (vi 1),.c (vi 1)],o s26 (.buildAll [1, 1]) [.c (vi 2),.c (vi 3)],o s27 (.buildAll [1, 3, 1, 2, 1, 1]) [.c (bs [100, 105, 118]),.t s25,.c (vi 1),.t s26,.c (.bool true),.c (.bool false)],o s28 (.buildAll [1, 1, 1]) [.c (vi 1),.c (vi 1),.c (vi 1)],o s29 (.buildAll [1, 1]) [.c (vi 2),.c (vi 3)],o s30 (.buildAll [1, 3, 1, 2, 1, 1]) [.c (bs [109, 111, 100]),.t s28,.c (vi 1),.t s29,.c (.bool true),.c (.bool false)],o s31 (.buildAll [1, 1, 1]) [.c (vi 1),.c (vi 1),.c (vi 0)],o s32 (.build [(vi 0), (vi 0)] [(0,1)]) [.c (vi 2)],o s33 (.buildAll [1, 3, 1, 2, 1, 1]) [.c (bs [110, 101, 103]),.t s31,.c (vi 1),.t s32,.c (.bool false),.c (.bool false)],o s34 (.buildAll [1, 1, 1]) [.c (vi 1),.c (vi 1),.c (vi 1)],o s35 (.buildAll [1, 1]) [.c (vi 2),.c (vi 3)],o s36 (.buildAll [1, 3, 1, 2, 1, 1]) [.c (bs [101, 113]),.t s34,.c (vi 1),.t s35,.c (.bool false),.c (.bool false)],o s37 (.buildAll [1, 1, 1]) [.c (vi 1),.c (vi 1),.c (vi 1)],o s38 (.buildAll [1, 1]) [.c (vi 2),.c (vi 3)],o s39 (.buildAll [1, 3, 1, 2, 1, 1]) [.c (bs [108, 101, 115, 115]),.t s37,.c (vi 1),.t s38,.c (.bool false),.c (.bool false)],o s40 (.buildAll [1, 1, 1]) [.c (vi 1),.c (vi 1),.c (vi 1)],o s41 (.buildAll [1, 1]) [.c (vi 2),.c (vi 3)],o s42 (.buildAll [1, 3, 1, 2, 1, 1]) [.c (bs [109, 111, 115, 116]),.t s40,.c (vi 1),.t s41,.c (.bool false),.c (.bool false)],o s43 (.buildAll [1, 1, 1]) [.c (vi 1),.c (vi 1),.c (vi 0)],o s44 (.build [(vi 0), (vi 0)] [(0,1)]) [.c (vi 2)],o s45 (.buildAll [1, 3, 1, 2, 1, 1]) [.c (bs [110, 111, 116]),.t s43,.c (vi 1),.t s44,.c (.bool false),.c (.bool false)],o s46 (.buildAll [1, 1, 1]) [.c (vi 1),.c (vi 1),.c (vi 0)],o s47 (.build [(vi 0), (vi 0)] [(0,1)]) [.c (vi 2)],o s48 (.buildAll [1, 3, 1, 2, 1, 1]) [.c (bs [104, 97, 115]),.t s46,.c (vi 1),.t s47,.c (.bool false),.c (.bool false)],o s49 (.buildAll [1, 1, 1]) [.c (vi 1),.c (vi 2),.c (vi 7)],o s50 (.build [(vi 0), (vi 0)] [(0,1)]) [.c (vi 2)],o s51 (.buildAll [1, 3, 1, 2, 1, 1]) [.c (bs [103, 101, 116]),.t s49,.c (vi 1),.t s50,.c (.bool true),.c (.bool false)],o s52 (.buildAll [1, 1, 1]) [.c (vi 7),.c (vi 1),.c (vi 0)],o s53 (.build [(vi 0), (vi 0)] [(0,1)]) [.c (vi 2)],o s54 (.buildAll [1, 3, 1, 2, 1, 1]) [.c (bs [115, 101, 116]),.t s52,.c (vi 0),.t s53,.c (.bool false),.c (.bool false)],o s55 (.buildAll [1, 1, 1]) [.c (vi 6),.c (vi 1),.c (vi 0)],o s56 (.build [(vi 0), (vi 0)] [(0,1)]) [.c (vi 2)],o s57 (.buildAll [1, 3, 1, 2, 1, 1]) [.c (bs [97, 114, 103]),.t s55,.c (vi 0),.t s56,.c (.bool false),.c (.bool false)],o s58 (.buildAll [1, 1, 1]) [.c (vi 2),.c (vi 2),.c (vi 8)],o s59 (.build [(vi 0), (vi 0)] [(0,1)]) [.c (vi 2)],o s60 (.buildAll [1, 3, 1, 2, 1, 1]) [.c (bs [99, 97, 108, 108]),.t s58,.c (vi 1),.t s59,.c (.bool true),.c (.bool false)],o s61 (.buildAll [1, 1, 1]) [.c (vi 1),.c (vi 10),.c (vi 5)],o s62 (.build [(vi 0), (vi 0)] []) [],o s63 (.buildAll [1, 3, 1, 2, 1, 1]) [.c (bs [110, 101, 119]),.t s61,.c (vi 1),.t s62,.c (.bool true),.c (.bool false)],o s64 (.buildAll [1, 1, 1]) [.c (vi 1),.c (vi 9),.c (vi 0)],o s65 (.build [(vi 0), (vi 0)] [(0,1)]) [.c (vi 1)],o s66 (.buildAll [1, 3, 1, 2, 1, 1]) [.c (bs [109, 97, 107, 101]),.t s64,.c (vi 0),.t s65,.c (.bool true),.c (.bool false)],o s67 (.buildAll [1, 1, 1]) [.c (vi 2),.c (vi 0),.c (vi 0)],o s68 (.build [(vi 0), (vi 0)] [(0,1)]) [.c (vi 1)],o s69 (.buildAll [1, 3, 1, 2, 1, 1]) [.c (bs [105, 110, 118]),.t s67,.c (vi 0),.t s68,.c (.bool true),.c (.bool false)],o s70 (.buildAll [1, 1, 1]) [.c (vi 3),.c (vi 0),.c (vi 0)],o s71 (.build [(vi 0), (vi 0)] []) [],o s72 (.buildAll [1, 3, 1, 2, 1, 1]) [.c (bs [106, 117, 109, 112]),.t s70,.c (vi 0),.t s71,.c (.bool false),.c (.bool true)],o s73 (.buildAll [1, 1, 1]) [.c (vi 1),.c (vi 3),.c (vi 0)],o s74 (.build [(vi 0), (vi 0)] [(0,1)]) [.c (vi 1)],o s75 (.buildAll [1, 3, 1, 2, 1, 1]) [.c (bs [102, 97, 108, 115, 101]),.t s73,.c (vi 0),.t s74,.c (.bool false),.c (.bool false)],o s76 (.buildAll [1, 1, 1]) [.c (vi 11),.c (vi 0),.c (vi 0)],o s77 (.build [(vi 0), (vi 0)] []) [],o s78 (.buildAll [1, 3, 1, 2, 1, 1]) [.c (bs [114, 97, 105, 115, 101]),.t s76,.c (vi 0),.t s77,.c (.bool true),.c (.bool true)],o s79 (.buildAll [1, 1, 1]) [.c (vi 0),.c (vi 0),.c (vi 0)],o s80 (.build [(vi 0), (vi 0)] []) [],o s81 (.buildAll [1, 3, 1, 2, 1, 1]) [.c (bs [102, 97, 105, 108]),.t s79,.c (vi 0),.t s80,.c (.bool true),.c (.bool true)],o s82 (.buildAll [1, 1, 1]) [.c (vi 2),.c (vi 0),.c (vi 0)],o s83 (.build [(vi 0), (vi 0)] [(0,1)]) [.c (vi 1)],o s84 (.buildAll [1, 3, 1, 2, 1, 1]) [.c (bs [114, 101, 116]),.t s82,.c (vi 0),.t s83,.c (.bool false),.c (.bool true)],o s85 (.buildAll [1, 1, 1]) [.c (vi 1),.c (vi 0),.c (vi 0)],o s86 (.build [(vi 0), (vi 0)] [(0,1)]) [.c (vi 1)],o s87 (.buildAll [1, 3, 1, 2, 1, 1]) [.c (bs [112, 117, 116]),.t s85,.c (vi 0),.t s86,.c (.bool false),.c (.bool false)],o s88 (.buildAll [1, 1, 1]) [.c (vi 1),.c (vi 0),.c (vi 0)],o s89 (.build [(vi 0), (vi 0)] [(0,1)]) [.c (vi 1)],o s90 (.buildAll [1, 3, 1, 2, 1, 1]) [.c (bs [101, 110, 116, 101, 114]),.t s88,.c (vi 0),.t s89,.c (.bool true),.c (.bool false)],o s91 (.buildAll [1, 1, 1]) [.c (vi 0),.c (vi 0),.c (vi 0)],o s92 (.build [(vi 0), (vi 0)] []) [],o s93 (.buildAll [1, 3, 1, 2, 1, 1]) [.c (bs [108, 101, 97, 118, 101]),.t s91,.c (vi 0),.t s92,.c (.bool false),.c (.bool false)],o s94 (.buildAll [1, 1, 1]) [.c (vi 1),.c (vi 3),.c (vi 0)],o s95 (.build [(vi 0), (vi 0)] [(0,1)]) [.c (vi 1)],o s96 (.buildAll [1, 3, 1, 2, 1, 1]) [.c (bs [97, 103, 97, 105, 110]),.t s94,.c (vi 0),.t s95,.c (.bool true),.c (.bool false)],o s97 (.buildAll [1, 1, 1]) [.c (vi 1),.c (vi 12),.c (vi 0)],o s98 (.build [(vi 0), (vi 0)] []) [],o s99 (.buildAll [1, 3, 1, 2, 1, 1]) [.c (bs [108, 111, 97, 100]),.t s97,.c (vi 1),.t s98,.c (.bool false),.c (.bool false)],o s100 (.buildAll [1, 1, 1]) [.c (vi 12),.c (vi 1),.c (vi 0)],o s101 (.build [(vi 0), (vi 0)] [(0,1)]) [.c (vi 2)],o s102 (.buildAll [1, 3, 1, 2, 1, 1]) [.c (bs [115, 116, 111, 114, 101]),.t s100,.c (vi 0),.t s101,.c (.bool false),.c (.bool false)],o s103 (.build [(bs []), (vi 0), (vi 0), (vi 0), (vi 0), (vi 0), (vi 0), (.bool false), (.bool false), (bs []), (vi 0), (vi 0), (vi 0), (vi 0), (vi 0), (vi 0), (.bool false), (.bool false), (bs []), (vi 0), (vi 0), (vi 0), (vi 0), (vi 0), (vi 0), (.bool false), (.bool false), (bs []), (vi 0), (vi 0), (vi 0), (vi 0), (vi 0), (vi 0), (.bool false), (.bool false), (bs []), (vi 0), (vi 0), (vi 0), (vi 0), (vi 0), (vi 0), (.bool false), (.bool false), (bs []), (vi 0), (vi 0), (vi 0), (vi 0), (vi 0), (vi 0), (.bool false), (.bool false), (bs []), (vi 0), (vi 0), (vi 0), (vi 0), (vi 0), (vi 0), (.bool false), (.bool false), (bs []), (vi 0), (vi 0), (vi 0), (vi 0), (vi 0), (vi 0), (.bool false), (.bool false), (bs []), (vi 0), (vi 0), (vi 0), (vi 0), (vi 0), (vi 0), (.bool false), (.bool false), (bs []), (vi 0), (vi 0), (vi 0), (vi 0), (vi 0), (vi 0), (.bool false), (.bool false), (bs []), (vi 0), (vi 0), (vi 0), (vi 0), (vi 0), (vi 0), (.bool false), (.bool false), (bs []), (vi 0), (vi 0), (vi 0), (vi 0), (vi 0), (vi 0), (.bool false), (.bool false), (bs []), (vi 0), (vi 0), (vi 0), (vi 0), (vi 0), (vi 0), (.bool false), (.bool false), (bs []), (vi 0), (vi 0), (vi 0), (vi 0), (vi 0), (vi 0), (.bool false), (.bool false), (bs []), (vi 0), (vi 0), (vi 0), (vi 0), (vi 0), (vi 0), (.bool false), (.bool false), (bs []), (vi 0), (vi 0), (vi 0), (vi 0), (vi 0), (vi 0), (.bool false), (.bool false), (bs []), (vi 0), (vi 0), (vi 0), (vi 0), (vi 0), (vi 0), (.bool false), (.bool false), (bs []), (vi 0), (vi 0), (vi 0), (vi 0), (vi 0), (vi 0), (.bool false), (.bool false), (bs []), (vi 0), (vi 0), (vi 0), (vi 0), (vi 0), (vi 0), (.bool false), (.bool false), (bs []), (vi 0), (vi 0), (vi 0), (vi 0), (vi 0), (vi 0), (.bool false), (.bool false), (bs []), (vi 0), (vi 0), (vi 0), (vi 0), (vi 0), (vi 0), (.bool false), (.bool false), (bs []), (vi 0), (vi 0), (vi 0), (vi 0), (vi 0), (vi 0), (.bool false), (.bool false), (bs []), (vi 0), (vi 0), (vi 0), (vi 0), (vi 0), (vi 0), (.bool false), (.bool false), (bs []), (vi 0), (vi 0), (vi 0), (vi 0), (vi 0), (vi 0), (.bool false), (.bool false), (bs []), (vi 0), (vi 0), (vi 0), (vi 0), (vi 0), (vi 0), (.bool false), (.bool false), (bs []), (vi 0), (vi 0), (vi 0), (vi 0), (vi 0), (vi 0), (.bool false), (.bool false), (bs []), (vi 0), (vi 0), (vi 0), (vi 0), (vi 0), (vi 0), (.bool false), (.bool false), (bs []), (vi 0), (vi 0), (vi 0), (vi 0), (vi 0), (vi 0), (.bool false), (.bool false), (bs []), (vi 0), (vi 0), (vi 0), (vi 0), (vi 0), (vi 0), (.bool false), (.bool false), (bs []), (vi 0), (vi 0), (vi 0), (vi 0), (vi 0), (vi 0), (.bool false), (.bool false), (bs []), (vi 0), (vi 0), (vi 0), (vi 0), (vi 0), (vi 0), (.bool false), (.bool false), (bs []), (vi 0), (vi 0), (vi 0), (vi 0), (vi 0), (vi 0), (.bool false), (.bool false), (bs []), (vi 0), (vi 0), (vi 0), (vi 0), (vi 0), (vi 0), (.bool false), (.bool false), (bs []), (vi 0), (vi 0), (vi 0), (vi 0), (vi 0), (vi 0), (.bool false), (.bool false), (bs []), (vi 0), (vi 0), (vi 0), (vi 0), (vi 0), (vi 0), (.bool false), (.bool false)] [(9,9), (18,9), (27,9), (36,9), (45,9), (54,9), (63,9), (72,9), (81,9), (90,9), (99,9), (108,9), (117,9), (126,9), (135,9), (144,9), (153,9), (162,9), (171,9), (180,9), (189,9), (198,9), (207,9), (216,9), (225,9), (234,9), (243,9), (252,9), (261,9), (270,9), (279,9), (288,9), (297,9), (306,9)]) [.t s3,.t s6,.t s9,.t s12,.t s15,.t s18,.t s21,.t s24,.t s27,.t s30,.t s33,.t s36,.t s39,.t s42,.t s45,.t s48,.t s51,.t s54,.t s57,.t s60,.t s63,.t s66,.t s69,.t s72,.t s75,.t s78,.t s81,.t s84,.t s87,.t s90,.t s93,.t s96,.t s99,.t s102],⟨none,(.prim (.store 315)),[.t s0,.t s103],none⟩]) .ret)),false⟩
theorem e120 : cFn PP 120 = some a120 := by kernel_rfl
def a123 : AFn := ⟨19,[.tmp s4],(.seq (.ops [m s4 (.c (vi 0))]) (.seq (.seq (.ops [m s6 (.t s0),o s7 (.lenSl) [.t s6],m s8 (.c (vi 0))]) (.block 0 (.loop (.seq (.ops [o s9 (.iop .lss) [.t s8,.t s7]]) (.seq (.cond (.t s9) .skip (.exit 0)) (.seq (.block 1 (.seq (.ops [m s10 (.t s8),m s5 (.t s10)]) (.seq (.ops [m s11 (.t s1),m s12 (.t s0),m s13 (.t s5),o s14 (.idxSlice 3) [.t s12,.t s13],o s15 (.loadN 3) [.t s14],⟨some s16,.dyn,[.t s11,.t s15],none⟩]) (.cond (.t s16) (.seq (.ops [m s17 (.t s5),m s4 (.t s17)]) .ret) .skip)))) (.ops [o s18 (.iop .add) [.t s8,.c (vi 1)],m s8 (.t s18)]))))))) (.seq (.ops [m s4 (.c (vi (-1)))]) .ret))),false⟩
theorem e123 : cFn PP 123 = some a123 := by kernel_rfl
def a134 : AFn := ⟨19,[.tmp s4],(.seq (.ops [m s4 (.c (vi 0))]) (.seq (.seq (.ops [m s6 (.t s0),o s7 (.lenSl) [.t s6],m s8 (.c (vi 0))]) (.block 0 (.loop (.seq (.ops [o s9 (.iop .lss) [.t s8,.t s7]]) (.seq (.cond (.t s9) .skip (.exit 0)) (.seq (.block 1 (.seq (.ops [m s10 (.t s8),m s5 (.t s10)]) (.seq (.ops [m s11 (.t s1),m s12 (.t s0),m s13 (.t s5),o s14 (.idxSlice 1) [.t s12,.t s13],o s15 (.load1) [.t s14],⟨some s16,.dyn,[.t s11,.t s15],none⟩]) (.cond (.t s16) (.seq (.ops [m s17 (.t s5),m s4 (.t s17)]) .ret) .skip)))) (.ops [o s18 (.iop .add) [.t s8,.c (vi 1)],m s8 (.t s18)]))))))) (.seq (.ops [m s4 (.c (vi (-1)))]) .ret))),false⟩
theorem e134 : cFn PP 134 = some a134 := by kernel_rfl
end Go.Ve.T
namespace Go.Ve
open Go.RowKit
noncomputable section
def Prim.isMv : Prim → Bool
  | .move => true
  | _ => false
theorem Prim.isMv_eq {p : Prim} (h : p.isMv = true) : p = .move := by
  unfold Prim.isMv at h
  split at h
  · rfl
  · cases h
def actF (P : Program) (w0 : World) (act : Act1) (vs : List Value) (E K : Value → W) : W := match act with
  | .prim p => (match p.isMv, vs with
    | true, [x] => K x
    | _, vs => pr p vs K)
  | .call f => cl P w0 f vs E K
  | .dyn => dy P w0 vs E K
  | .panic => pn vs E
  | _ => fun _ => False
def opF (P : Program) (w0 : World) (o : AOp) (σ : Sl) (E K : Value → W) : W := match o.guard with
  | none => actF P w0 o.act (o.args.map (opdS σ)) E K
  | some (g, want) => gd (σ g) want (fun k => actF P w0 o.act (o.args.map (opdS σ)) E k) K
def opsF (P : Program) (w0 : World) : List AOp → Sl → (Value → W) → (Sl → W) → W
  | [], σ, _, N => N σ
  | o :: l, σ, E, N => opF P w0 o σ E fun v => opsF P w0 l (σ.upO o.dst v) E N
def ckF (p : Prim) (vs : List Value) (v : Value) (K : W) : W := bif p.makes then ckm p vs v K else ck p vs v K
def chkF (o : AOp) (σ : Sl) (K : W) : W := match o.act, o.dst with
  | .prim p, some q => (match o.guard with
    | none => ckF p (o.args.map (opdS σ)) (σ q) K
    | some (g, want) => gk (σ g) want (fun k => ckF p (o.args.map (opdS σ)) (σ q) k) K)
  | _, _ => fun _ => False
def drawF (P : Program) (w0 : World) : List DOp → Sl → (Value → W) → (Sl → W) → W
  | [], σ, _, N => N σ
  | .op _ o :: l, σ, E, N => opF P w0 o σ E fun v => drawF P w0 l (σ.upO o.dst v) E N
  | .chk _ o :: l, σ, E, N => chkF o σ (drawF P w0 l σ E N)
def Tup : List Pos → Type
  | [] => Unit
  | [_] => Value
  | _ :: q :: ps => Value × Tup (q :: ps)
def tupOf : (ps : List Pos) → Sl → Tup ps
  | [], _ => ()
  | [p], σ => σ p
  | p :: q :: ps, σ => (σ p, tupOf (q :: ps) σ)
def upsT : (ps : List Pos) → Sl → Tup ps → Sl
  | [], σ, _ => σ
  | [p], σ, a => σ.up p a
  | p :: q :: ps, σ, a => (upsT (q :: ps) σ a.2).up p a.1
def nl : ACode → Nat
  | .seq a b => nl a + nl b
  | .cond _ a b => nl a + nl b
  | .block _ c => nl c
  | .loop c => nl c + 1
  | _ => 0
def cF (P : Program) (w0 : World) : ACode → List (List Pos) → Sl → (Value → W) → (AX → Sl → W) → W
  | .skip, _, σ, _, X => X .normal σ
  | .ops l, _, σ, E, X => opsF P w0 l σ E (X .normal)
  | .draw l, _, σ, E, X => drawF P w0 l σ E (X .normal)
  | .seq a b, L, σ, E, X => cF P w0 a L σ E fun x σ => match x with
    | .normal => cF P w0 b (L.drop (nl a)) σ E X
    | x => X x σ
  | .cond c a b, L, σ, E, X => br (opdS σ c) (cF P w0 a L σ E X) (cF P w0 b (L.drop (nl a)) σ E X)
  | .block id c, L, σ, E, X => cF P w0 c L σ E fun x σ => match x with
    | .exit j => bif Nat.beq j id then X .normal σ else X (.exit j) σ
    | x => X x σ
  | .loop c, L, σ, E, X => (match L with
    | ps :: L => LP (α := Tup ps) (fun k a => cF P w0 c L (upsT ps σ a) E fun x σ => match x with
      | .normal => k (tupOf ps σ)
      | x => X x σ) (tupOf ps σ)
    | [] => fun _ => False)
  | .rangeF _ _ _ _, _, _, _, _ => fun _ => False
  | .exit id, _, σ, _, X => X (.exit id) σ
  | .ret, _, σ, _, X => X .ret σ
def inD (D : Nat) (p : Pos) : Bool := D.testBit p.un
def delD (D : Nat) (p : Pos) : Nat := D ^^^ (D &&& (1 <<< p.un))
def delO (D : Nat) : Option Pos → Nat
  | none => D
  | some p => delD D p
def addO (D : Nat) : Option Pos → Nat
  | none => D
  | some p => D ||| (1 <<< p.un)
def delL (D : Nat) : List Pos → Nat
  | [] => D
  | p :: ps => delL (delD D p) ps
def agree (D : Nat) (σ τ : Sl) : Prop := ∀ p, inD D p = false → σ p = τ p
theorem bit_iff (p q : Pos) : (1 <<< p.un).testBit q.un = decide (q = p) := by
  rw [Nat.one_shiftLeft, Nat.testBit_two_pow]
  exact decide_eq_decide.2 ⟨fun e => (Pos.un_inj e).symm, fun e => by rw [e]⟩
theorem inD_or (A B : Nat) (p : Pos) : inD (A ||| B) p = (inD A p || inD B p) := Nat.testBit_or ..
theorem inD_del (D : Nat) (p q : Pos) : inD (delD D p) q = (inD D q && !decide (q = p)) := by
  unfold inD delD
  rw [Nat.testBit_xor, Nat.testBit_and, bit_iff]
  cases D.testBit q.un <;> cases decide (q = p) <;> rfl
theorem inD_add (D : Nat) (p q : Pos) : inD (addO D (some p)) q = (inD D q || decide (q = p)) := by
  unfold inD addO
  rw [Nat.testBit_or, bit_iff]
theorem inD_delL {q : Pos} : ∀ {ps : List Pos} {D : Nat}, inD (delL D ps) q = (inD D q && !decide (q ∈ ps))
  | [], D => by simp [delL]
  | p :: ps, D => by
    rw [delL, inD_delL, inD_del]
    by_cases e : q = p <;> simp [e]
theorem agree.or {A B : Nat} {σ τ : Sl} (h : agree A σ τ) : agree (A ||| B) σ τ := fun p hp => h p (by rw [inD_or, Bool.or_eq_false_iff] at hp; exact hp.1)
theorem agree.or' {A B : Nat} {σ τ : Sl} (h : agree B σ τ) : agree (A ||| B) σ τ := fun p hp => h p (by rw [inD_or, Bool.or_eq_false_iff] at hp; exact hp.2)
theorem Sl.up_eq (σ : Sl) (p q : Pos) (v : Value) : σ.up p v q = if q = p then v else σ q := by
  unfold Sl.up
  by_cases e : q = p
  · rw [if_pos e, Pos.beq_iff.2 e.symm]; rfl
  · rw [if_neg e]
    cases h : p.beq q with
    | false => rfl
    | true => exact absurd (Pos.beq_iff.1 h).symm e
theorem agree.up {D : Nat} {σ τ : Sl} (h : agree D σ τ) : ∀ (d : Option Pos) (v : Value), agree (delO D d) (σ.upO d v) (τ.upO d v)
  | none, _ => h
  | some p, v => fun q hq => by
    show σ.up p v q = τ.up p v q
    rw [Sl.up_eq, Sl.up_eq]
    by_cases e : q = p
    · rw [if_pos e, if_pos e]
    · rw [if_neg e, if_neg e]
      refine h q ?_
      have hq : inD (delD D p) q = false := hq
      rw [inD_del] at hq
      simpa [e] using hq
structure Out where
  n : Option Nat
  r : Option Nat
  x : List (Nat × Nat)
def jO : Option Nat → Option Nat → Option Nat
  | none, b => b
  | a, none => a
  | some a, some b => some (a ||| b)
def opdD (D : Nat) : Opd → Bool
  | .t p => !inD D p
  | .c _ => true
def opD (D : Nat) (o : AOp) : Bool := o.args.all (opdD D) && (match o.guard with
  | none => true
  | some (g, _) => !inD D g)
def opsD : List AOp → Nat → Option Nat
  | [], D => some D
  | o :: l, D => bif opD D o then opsD l (delO D o.dst) else none
def drawD : List DOp → Nat → Option Nat
  | [], D => some D
  | .op _ o :: l, D => bif opD D o then drawD l (delO D o.dst) else none
  | .chk _ o :: l, D => bif opD D o && (match o.dst with
    | none => true
    | some q => !inD D q) then drawD l D else none
def wrO : List AOp → Nat → Nat
  | [], D => D
  | o :: l, D => wrO l (addO D o.dst)
def wrD : List DOp → Nat → Nat
  | [], D => D
  | .op _ o :: l, D => wrD l (addO D o.dst)
  | .chk _ _ :: l, D => wrD l D
def wr : ACode → Nat → Nat
  | .ops l, D => wrO l D
  | .draw l, D => wrD l D
  | .seq a b, D => wr b (wr a D)
  | .cond _ a b, D => wr b (wr a D)
  | .block _ c, D => wr c D
  | .loop c, D => wr c D
  | _, D => D
def getX (id : Nat) : List (Nat × Nat) → Option Nat
  | [] => none
  | (j, D) :: l => bif Nat.beq j id then jO (some D) (getX id l) else getX id l
def dropX (id : Nat) : List (Nat × Nat) → List (Nat × Nat)
  | [] => []
  | (j, D) :: l => bif Nat.beq j id then dropX id l else (j, D) :: dropX id l
def Out.ofN : Option Nat → Option Out
  | none => none
  | some D => some ⟨some D, none, []⟩
def seqO (ra : Out) (rb : Option Out) : Option Out := match rb with
  | none => none
  | some rb => some ⟨rb.n, jO ra.r rb.r, ra.x ++ rb.x⟩
def condO : Option Out → Option Out → Option Out
  | some ra, some rb => some ⟨jO ra.n rb.n, jO ra.r rb.r, ra.x ++ rb.x⟩
  | _, _ => none
def blockO (id : Nat) : Option Out → Option Out
  | none => none
  | some r => some ⟨jO r.n (getX id r.x), r.r, dropX id r.x⟩
def noneIn (D : Nat) : List Pos → Bool
  | [] => true
  | p :: ps => !inD D p && noneIn D ps
def allIn (D : Nat) : List Pos → Bool
  | [] => true
  | p :: ps => inD D p && allIn D ps
def loopO (ps : List Pos) (D0 : Nat) : Option Out → Option Out
  | none => none
  | some r => (match r.n with
    | none => some ⟨none, r.r, r.x⟩
    | some D1 => bif noneIn D1 ps && Nat.beq (D1 ||| D0) D0 then some ⟨none, r.r, r.x⟩ else none)
def chkC : ACode → List (List Pos) → Nat → Option Out
  | .skip, _, D => some ⟨some D, none, []⟩
  | .ops l, _, D => Out.ofN (opsD l D)
  | .draw l, _, D => Out.ofN (drawD l D)
  | .seq a b, L, D => (match chkC a L D with
    | none => none
    | some ra => (match ra.n with
      | none => some ra
      | some D1 => seqO ra (chkC b (L.drop (nl a)) D1)))
  | .cond c a b, L, D => bif opdD D c then condO (chkC a L D) (chkC b (L.drop (nl a)) D) else none
  | .block id c, L, D => blockO id (chkC c L D)
  | .loop c, L, D => (match L with
    | [] => none
    | ps :: L => bif noneIn D ps && allIn (wr c 0) ps then loopO ps (D ||| delL (wr c 0) ps) (chkC c L (D ||| delL (wr c 0) ps)) else none)
  | .exit id, _, D => some ⟨none, none, [(id, D)]⟩
  | .ret, _, D => some ⟨none, some D, []⟩
  | .rangeF _ _ _ _, _, _ => none
def Out.at (r : Out) (x : AX) (D : Nat) : Prop := match x with
  | .normal => r.n = some D
  | .ret => r.r = some D
  | .exit id => (id, D) ∈ r.x
  | .pan _ => False
theorem jO_l {a b : Option Nat} {A : Nat} (h : a = some A) : ∃ B, jO a b = some (A ||| B) ∧ (b = none → B = 0) := by
  subst h
  cases b with
  | none => exact ⟨0, by simp [jO], fun _ => rfl⟩
  | some b => exact ⟨b, rfl, fun h => by cases h⟩
theorem jO_r {a b : Option Nat} {B : Nat} (h : b = some B) : ∃ A, jO a b = some (A ||| B) := by
  subst h
  cases a with
  | none => exact ⟨0, by simp [jO]⟩
  | some a => exact ⟨a, rfl⟩
theorem wrO_or {p : Pos} : ∀ {l : List AOp} {D : Nat}, inD (wrO l D) p = (inD D p || inD (wrO l 0) p)
  | [], D => by simp [wrO, inD]
  | o :: l, D => by
    rw [wrO, wrO, wrO_or, wrO_or (D := addO 0 o.dst), ← Bool.or_assoc]
    congr 1
    cases o.dst with
    | none => simp [addO, inD]
    | some q => rw [inD_add, inD_add]; simp [inD]
theorem wrD_or {p : Pos} : ∀ {l : List DOp} {D : Nat}, inD (wrD l D) p = (inD D p || inD (wrD l 0) p)
  | [], D => by simp [wrD, inD]
  | .chk _ _ :: l, D => by rw [wrD, wrD, wrD_or]
  | .op _ o :: l, D => by
    rw [wrD, wrD, wrD_or, wrD_or (D := addO 0 o.dst), ← Bool.or_assoc]
    congr 1
    cases o.dst with
    | none => simp [addO, inD]
    | some q => rw [inD_add, inD_add]; simp [inD]
theorem inD_zero (p : Pos) : inD 0 p = false := by simp [inD]
theorem wr_or {p : Pos} : ∀ (c : ACode) (D : Nat), inD (wr c D) p = (inD D p || inD (wr c 0) p) := by
  intro c
  induction c with
  | ops l => exact fun D => wrO_or
  | draw l => exact fun D => wrD_or
  | seq a b iha ihb => intro D; simp only [wr]; rw [ihb, ihb (wr a 0), iha, Bool.or_assoc]
  | cond c a b iha ihb => intro D; simp only [wr]; rw [ihb, ihb (wr a 0), iha, Bool.or_assoc]
  | block id c ih => exact ih
  | loop c ih => exact ih
  | _ => intro D; simp only [wr]; rw [inD_zero, Bool.or_false]
def keep (c : ACode) (σ σ' : Sl) : Prop := ∀ p, inD (wr c 0) p = false → σ' p = σ p
theorem two_or {a b : ACode} {p : Pos} (h : inD (wr b (wr a 0)) p = false) : inD (wr a 0) p = false ∧ inD (wr b 0) p = false := by
  rw [wr_or] at h
  exact Bool.or_eq_false_iff.1 h
theorem noneIn_of {D : Nat} {p : Pos} : ∀ {ps : List Pos}, noneIn D ps = true → p ∈ ps → inD D p = false
  | q :: ps, h, hp => by
    rw [noneIn, Bool.and_eq_true] at h
    rcases List.mem_cons.1 hp with rfl | hp
    · simpa using h.1
    · exact noneIn_of h.2 hp
theorem allIn_of {D : Nat} {p : Pos} : ∀ {ps : List Pos}, allIn D ps = true → p ∈ ps → inD D p = true
  | q :: ps, h, hp => by
    rw [allIn, Bool.and_eq_true] at h
    rcases List.mem_cons.1 hp with rfl | hp
    · exact h.1
    · exact allIn_of h.2 hp
theorem tup_eq {σ τ : Sl} : ∀ {ps : List Pos}, (∀ p ∈ ps, σ p = τ p) → tupOf ps σ = tupOf ps τ
  | [], _ => rfl
  | [p], h => h p (by simp)
  | p :: q :: ps, h => by
    show (σ p, tupOf (q :: ps) σ) = (τ p, tupOf (q :: ps) τ)
    rw [h p (by simp), tup_eq fun x hx => h x (List.mem_cons_of_mem _ hx)]
theorem upsT_mem {σ τ : Sl} {x : Pos} : ∀ {ps : List Pos}, x ∈ ps → upsT ps σ (tupOf ps τ) x = τ x
  | [p], h => by
    obtain rfl := List.mem_singleton.1 h
    show σ.up x (τ x) x = τ x
    rw [Sl.up_eq, if_pos rfl]
  | p :: q :: ps, h => by
    show (upsT (q :: ps) σ (tupOf (q :: ps) τ)).up p (τ p) x = τ x
    rw [Sl.up_eq]
    by_cases e : x = p
    · rw [if_pos e, e]
    · rw [if_neg e]
      exact upsT_mem ((List.mem_cons.1 h).resolve_left e)
theorem upsT_not {σ : Sl} {x : Pos} : ∀ {ps : List Pos} {a : Tup ps}, x ∉ ps → upsT ps σ a x = σ x
  | [], _, _ => rfl
  | [p], a, h => by
    exact (Sl.up_eq σ p x a).trans (if_neg (by simpa using h))
  | p :: q :: ps, a, h => by
    show (upsT (q :: ps) σ a.2).up p a.1 x = σ x
    rw [Sl.up_eq, if_neg fun e => h (by simp [e]), upsT_not fun hx => h (List.mem_cons_of_mem _ hx)]
section
variable {P : Program} {w0 : World} {e : Env} {d : DS}
theorem opd_agree {D : Nat} {σ τ : Sl} (h : agree D σ τ) {o : Opd} (ho : opdD D o = true) : opdS σ o = opdS τ o := by
  cases o with
  | t p => exact h p (by simpa [opdD] using ho)
  | c v => rfl
theorem opds_agree {D : Nat} {σ τ : Sl} (h : agree D σ τ) : ∀ {l : List Opd}, l.all (opdD D) = true → l.map (opdS σ) = l.map (opdS τ)
  | [], _ => rfl
  | o :: l, hl => by
    rw [List.all_cons, Bool.and_eq_true] at hl
    rw [List.map_cons, List.map_cons, opds_agree h hl.2, opd_agree h hl.1]
theorem opF_agree {D : Nat} {σ τ : Sl} (h : agree D σ τ) {o : AOp} (ho : opD D o = true) {E K : Value → W} : opF P w0 o σ E K = opF P w0 o τ E K := by
  obtain ⟨dst, act, args, g⟩ := o
  rw [opD, Bool.and_eq_true] at ho
  unfold opF
  simp only
  rw [opds_agree h ho.1]
  cases g with
  | none => rfl
  | some pw =>
    obtain ⟨g, want⟩ := pw
    have h2 : inD D g = false := by simpa using ho.2
    simp only [h g h2]
theorem act_ok {act : Act1} {dst : Option Pos} {vs : List Value} {σ : Sl} {h : AH} {E K : Value → W} {Q : PQ} {K' : Sl → DS → AH → Prop} (H : actF P w0 act vs E K h) (hE : ∀ v h, E v h → Q (.pan v) σ d h) (hK : ∀ v h, K v h → K' (σ.upO dst v) d h) : wpAct P w0 act dst e σ d h vs Q K' := by
  cases act with
  | prim p =>
    simp only [actF] at H
    revert H
    cases hp : p.isMv with
    | false => exact fun H => act_p (e := e) (Q := Q) H hK
    | true =>
      match vs with
      | [] => exact fun H => act_p (e := e) (Q := Q) H hK
      | [x] => intro H; rw [Prim.isMv_eq hp]; exact fun k hk => hk _ _ (hK _ _ H)
      | _ :: _ :: _ => exact fun H => act_p (e := e) (Q := Q) H hK
  | call f => exact act_c H hE hK
  | dyn => exact act_d H hE hK
  | panic => exact act_n H hE
  | _ => exact H.elim
theorem op_ok {o : AOp} {σ : Sl} {h : AH} {E K : Value → W} {Q : PQ} {K' : Sl → DS → AH → Prop} (H : opF P w0 o σ E K h) (hE : ∀ v h, E v h → Q (.pan v) σ d h) (hK : ∀ v h, K v h → K' (σ.upO o.dst v) d h) : wpOp P w0 o e σ d h Q K' := by
  obtain ⟨dst, act, args, g⟩ := o
  cases g with
  | none => exact act_ok H hE hK
  | some pw => exact op_g rfl H (fun H => act_ok H hE hK) hK
theorem ops_ok {E : Value → W} {N : Sl → W} {Q : PQ} (hE : ∀ v σ h, E v h → Q (.pan v) σ d h) : ∀ {l : List AOp} {D D' : Nat} {σm σ : Sl} {h : AH}, opsD l D = some D' → agree D σm σ → opsF P w0 l σm E N h →
    (∀ σm' σ' h, agree D' σm' σ' → keep (.ops l) σm σm' → N σm' h → Q .normal σ' d h) → wpOps P w0 l e σ d h Q := by
  intro l
  induction l with
  | nil =>
    intro D D' σm σ h hc ha H hN
    obtain rfl := Option.some.inj hc
    exact hN _ _ _ ha (fun _ _ => rfl) H
  | cons o l ih =>
    intro D D' σm σ h hc ha H hN
    unfold opsD at hc
    cases ho : opD D o with
    | false => rw [ho] at hc; cases hc
    | true =>
      rw [ho] at hc
      unfold opsF at H
      rw [opF_agree ha ho] at H
      refine op_ok H (fun v h => hE v σ h) fun v h H => ih hc (ha.up o.dst v) H fun σm' σ' h h1 h2 h3 => hN _ _ _ h1 (fun p hp => ?_) h3
      have hp : inD (wrO l (addO 0 o.dst)) p = false := hp
      rw [wrO_or, Bool.or_eq_false_iff] at hp
      rw [h2 p hp.2]
      revert hp
      cases o.dst with
      | none => exact fun _ => rfl
      | some q =>
        intro hp
        have h4 := hp.1
        rw [inD_add, Bool.or_eq_false_iff] at h4
        show σm.up q v p = σm p
        rw [Sl.up_eq, if_neg (by simpa using h4.2)]
theorem chk_ok {D : Nat} {o : AOp} {σm σ : Sl} {h : AH} {K : W} (ho : opD D o = true) (hd : (match o.dst with
    | none => true
    | some q => !inD D q) = true) (ha : agree D σm σ) (H : chkF o σm K h) : chkS o σ h ∧ K h := by
  obtain ⟨dst, act, args, g⟩ := o
  rw [opD, Bool.and_eq_true] at ho
  have e1 := opds_agree ha ho.1
  cases act with
  | prim p =>
    cases dst with
    | none => exact H.elim
    | some q =>
      have e2 : σm q = σ q := ha q (by simpa using hd)
      have cc : ckF p (args.map (opdS σ)) (σ q) K h → chkB (.prim p) (some q) (args.map (opdS σ)) σ h ∧ K h := by
        unfold ckF chkB
        simp only
        cases p.makes with
        | true => exact id
        | false => exact id
      cases g with
      | none =>
        simp only [chkF, e1, e2] at H
        exact cc H
      | some pw =>
        obtain ⟨g, want⟩ := pw
        have e3 : σm g = σ g := ha g (by simpa using ho.2)
        simp only [chkF, e1, e2, e3] at H
        exact chk_g rfl H cc
  | _ => cases dst <;> exact H.elim
theorem draw_ok {E : Value → W} {N : Sl → W} {Q : PQ} (hE : ∀ v σ h, E v h → Q (.pan v) σ d h) : ∀ {l : List DOp} {D D' : Nat} {σm σ : Sl} {h : AH}, drawD l D = some D' → agree D σm σ → drawF P w0 l σm E N h →
    (∀ σm' σ' h, agree D' σm' σ' → keep (.draw l) σm σm' → N σm' h → Q .normal σ' d h) → wpDraw P w0 l e σ d h Q := by
  intro l
  induction l with
  | nil =>
    intro D D' σm σ h hc ha H hN
    obtain rfl := Option.some.inj hc
    exact hN _ _ _ ha (fun _ _ => rfl) H
  | cons o l ih =>
    intro D D' σm σ h hc ha H hN
    cases o with
    | chk i o =>
      unfold drawD at hc
      cases ho : (opD D o && (match o.dst with
        | none => true
        | some q => !inD D q)) with
      | false => rw [ho] at hc; cases hc
      | true =>
        rw [ho] at hc
        rw [Bool.and_eq_true] at ho
        have H2 := chk_ok ho.1 ho.2 ha H
        exact ⟨H2.1, ih hc ha H2.2 hN⟩
    | op i o =>
      unfold drawD at hc
      cases ho : opD D o with
      | false => rw [ho] at hc; cases hc
      | true =>
        rw [ho] at hc
        unfold drawF at H
        rw [opF_agree ha ho] at H
        refine op_ok H (fun v h => hE v σ h) fun v h H => ih hc (ha.up o.dst v) H fun σm' σ' h h1 h2 h3 => hN _ _ _ h1 (fun p hp => ?_) h3
        have hp : inD (wrD l (addO 0 o.dst)) p = false := hp
        rw [wrD_or, Bool.or_eq_false_iff] at hp
        rw [h2 p hp.2]
        revert hp
        cases o.dst with
        | none => exact fun _ => rfl
        | some q =>
          intro hp
          have h4 := hp.1
          rw [inD_add, Bool.or_eq_false_iff] at h4
          show σm.up q v p = σm p
          rw [Sl.up_eq, if_neg (by simpa using h4.2)]
theorem getX_of {id D : Nat} : ∀ {l : List (Nat × Nat)} {j : Nat}, (j, D) ∈ l → Nat.beq j id = true → ∃ G, getX id l = some G ∧ ∀ σ τ : Sl, agree D σ τ → agree G σ τ
  | (i, A) :: l, j, hm, hj => by
    rcases List.mem_cons.1 hm with e | hm
    · obtain ⟨rfl, rfl⟩ := Prod.mk.inj e
      obtain ⟨B, hB, _⟩ := jO_l (a := some D) (b := getX id l) rfl
      exact ⟨_, by rw [getX, hj]; exact hB, fun σ τ h => h.or⟩
    · obtain ⟨G, h1, h2⟩ := getX_of hm hj
      cases hi : Nat.beq i id with
      | false => exact ⟨G, by rw [getX, hi]; exact h1, h2⟩
      | true =>
        obtain ⟨A', hA⟩ := jO_r (a := some A) h1
        exact ⟨_, by rw [getX, hi]; exact hA, fun σ τ h => (h2 σ τ h).or'⟩
theorem dropX_of {id D : Nat} : ∀ {l : List (Nat × Nat)} {j : Nat}, (j, D) ∈ l → Nat.beq j id = false → (j, D) ∈ dropX id l
  | (i, A) :: l, j, hm, hj => by
    rcases List.mem_cons.1 hm with e | hm
    · obtain ⟨rfl, rfl⟩ := Prod.mk.inj e
      rw [dropX, hj]
      exact List.mem_cons_self
    · have := dropX_of hm hj
      rw [dropX]
      cases Nat.beq i id with
      | true => exact this
      | false => exact List.mem_cons_of_mem _ this
theorem cF_ok (hmix : P.follows .mixedOrders = true) : ∀ (c : ACode) {L : List (List Pos)} {D : Nat} {r : Out} {σm σ : Sl} {h : AH} {E : Value → W} {X : AX → Sl → W} {Q : PQ}, chkC c L D = some r → agree D σm σ → cF P w0 c L σm E X h →
    (∀ v σ h, E v h → Q (.pan v) σ d h) → (∀ x D' σm' σ' h, r.at x D' → agree D' σm' σ' → keep c σm σm' → X x σm' h → Q x σ' d h) → wpC P w0 c e σ d h Q := by
  intro c
  induction c with
  | skip =>
    intro L D r σm σ h E X Q hc ha H hE hX
    obtain rfl := Option.some.inj hc
    exact hX .normal D _ _ _ rfl ha (fun _ _ => rfl) H
  | ops l =>
    intro L D r σm σ h E X Q hc ha H hE hX
    unfold chkC at hc
    cases hD : opsD l D with
    | none => rw [hD] at hc; cases hc
    | some D' =>
      rw [hD] at hc
      obtain rfl := Option.some.inj hc
      exact ops_ok hE hD ha H fun σm' σ' h h1 h2 h3 => hX .normal D' _ _ _ rfl h1 h2 h3
  | draw l =>
    intro L D r σm σ h E X Q hc ha H hE hX
    unfold chkC at hc
    cases hD : drawD l D with
    | none => rw [hD] at hc; cases hc
    | some D' =>
      rw [hD] at hc
      obtain rfl := Option.some.inj hc
      exact draw_ok hE hD ha H fun σm' σ' h h1 h2 h3 => hX .normal D' _ _ _ rfl h1 h2 h3
  | seq a b iha ihb =>
    intro L D r σm σ h E X Q hc ha H hE hX
    unfold chkC at hc
    cases hA : chkC a L D with
    | none => rw [hA] at hc; cases hc
    | some ra =>
      rw [hA] at hc
      simp only at hc
      cases hn : ra.n with
      | none =>
        rw [hn] at hc
        obtain rfl := Option.some.inj hc
        refine iha hA ha H hE fun x D' σm' σ' h h1 h2 h3 h4 => ?_
        have hk : keep (.seq a b) σm σm' := fun p hp => h3 p (two_or hp).1
        cases x with
        | normal => exact absurd (hn.symm.trans h1) nofun
        | ret => exact hX .ret D' _ _ _ h1 h2 hk h4
        | exit id => exact hX (.exit id) D' _ _ _ h1 h2 hk h4
        | pan v => exact h1.elim
      | some D1 =>
        rw [hn] at hc
        simp only at hc
        cases hB : chkC b (L.drop (nl a)) D1 with
        | none => rw [hB] at hc; cases hc
        | some rb =>
          rw [hB] at hc
          obtain rfl := Option.some.inj hc
          refine iha hA ha H hE fun x D' σm' σ' h h1 h2 h3 h4 => ?_
          have hk : keep (.seq a b) σm σm' := fun p hp => h3 p (two_or hp).1
          cases x with
          | normal =>
            obtain rfl := Option.some.inj (hn.symm.trans h1)
            refine ihb hB h2 h4 hE fun x D' σm2 σ2 h g1 g2 g3 g4 => ?_
            have hk2 : keep (.seq a b) σm σm2 := fun p hp => (g3 p (two_or hp).2).trans (h3 p (two_or hp).1)
            cases x with
            | normal => exact hX .normal D' _ _ _ g1 g2 hk2 g4
            | ret =>
              obtain ⟨A, hA⟩ := jO_r (a := ra.r) g1
              exact hX .ret _ _ _ _ hA g2.or' hk2 g4
            | exit id => exact hX (.exit id) D' _ _ _ (List.mem_append_right _ g1) g2 hk2 g4
            | pan v => exact g1.elim
          | ret =>
            obtain ⟨B, hB, _⟩ := jO_l (b := rb.r) h1
            exact hX .ret _ _ _ _ hB h2.or hk h4
          | exit id => exact hX (.exit id) D' _ _ _ (List.mem_append_left _ h1) h2 hk h4
          | pan v => exact h1.elim
  | cond o a b iha ihb =>
    intro L D r σm σ h E X Q hc ha H hE hX
    unfold chkC at hc
    cases ho : opdD D o with
    | false => rw [ho] at hc; cases hc
    | true =>
      rw [ho] at hc
      have hc : condO (chkC a L D) (chkC b (L.drop (nl a)) D) = some r := hc
      cases hA : chkC a L D with
      | none => rw [hA] at hc; cases hc
      | some ra =>
        cases hB : chkC b (L.drop (nl a)) D with
        | none => rw [hA, hB] at hc; cases hc
        | some rb =>
          rw [hA, hB] at hc
          obtain rfl := Option.some.inj hc
          unfold cF at H
          rw [opd_agree ha ho] at H
          refine st_cond rfl H (fun H => iha hA ha H hE fun x D' σm' σ' h h1 h2 h3 h4 => ?_) (fun H => ihb hB ha H hE fun x D' σm' σ' h h1 h2 h3 h4 => ?_)
          · have hk : keep (.cond o a b) σm σm' := fun p hp => h3 p (two_or hp).1
            cases x with
            | normal =>
              obtain ⟨B, hB, _⟩ := jO_l (b := rb.n) h1
              exact hX .normal _ _ _ _ hB h2.or hk h4
            | ret =>
              obtain ⟨B, hB, _⟩ := jO_l (b := rb.r) h1
              exact hX .ret _ _ _ _ hB h2.or hk h4
            | exit id => exact hX (.exit id) D' _ _ _ (List.mem_append_left _ h1) h2 hk h4
            | pan v => exact h1.elim
          · have hk : keep (.cond o a b) σm σm' := fun p hp => h3 p (two_or hp).2
            cases x with
            | normal =>
              obtain ⟨A, hA⟩ := jO_r (a := ra.n) h1
              exact hX .normal _ _ _ _ hA h2.or' hk h4
            | ret =>
              obtain ⟨A, hA⟩ := jO_r (a := ra.r) h1
              exact hX .ret _ _ _ _ hA h2.or' hk h4
            | exit id => exact hX (.exit id) D' _ _ _ (List.mem_append_right _ h1) h2 hk h4
            | pan v => exact h1.elim
  | block id c ih =>
    intro L D r σm σ h E X Q hc ha H hE hX
    unfold chkC at hc
    cases hC : chkC c L D with
    | none => rw [hC] at hc; cases hc
    | some rc =>
      rw [hC] at hc
      obtain rfl := Option.some.inj hc
      refine ih hC ha H hE fun x D' σm' σ' h h1 h2 h3 h4 => ?_
      cases x with
      | normal =>
        obtain ⟨B, hB, _⟩ := jO_l (b := getX id rc.x) h1
        exact hX .normal _ _ _ _ hB h2.or h3 h4
      | ret => exact hX .ret D' _ _ _ h1 h2 h3 h4
      | exit j =>
        have h4 : (bif Nat.beq j id then X .normal σm' else X (.exit j) σm') h := h4
        show bif Nat.beq j id then Q .normal σ' d h else Q (.exit j) σ' d h
        cases hj : Nat.beq j id with
        | true =>
          rw [hj] at h4
          obtain ⟨G, hG, hm⟩ := getX_of h1 hj
          obtain ⟨A, hA⟩ := jO_r (a := rc.n) hG
          exact hX .normal _ _ _ _ hA (hm _ _ h2).or' h3 h4
        | false =>
          rw [hj] at h4
          exact hX (.exit j) D' _ _ _ (dropX_of h1 hj) h2 h3 h4
      | pan v => exact h1.elim
  | loop c ih =>
    intro L D r σm σ h E X Q hc ha H hE hX
    cases L with
    | nil => cases hc
    | cons ps L =>
      have hc : (bif noneIn D ps && allIn (wr c 0) ps then loopO ps (D ||| delL (wr c 0) ps) (chkC c L (D ||| delL (wr c 0) ps)) else none) = some r := hc
      cases hps : noneIn D ps && allIn (wr c 0) ps with
      | false => rw [hps] at hc; cases hc
      | true =>
        rw [hps] at hc
        have hc : loopO ps (D ||| delL (wr c 0) ps) (chkC c L (D ||| delL (wr c 0) ps)) = some r := hc
        rw [Bool.and_eq_true] at hps
        cases hC : chkC c L (D ||| delL (wr c 0) ps) with
        | none => rw [hC] at hc; cases hc
        | some rc =>
          rw [hC] at hc
          have fit : ∀ σ', (∀ p, inD (D ||| delL (wr c 0) ps) p = false → p ∉ ps → σm p = σ' p) → agree (D ||| delL (wr c 0) ps) (upsT ps σm (tupOf ps σ')) σ' := fun σ' hh p hp => by
            by_cases hm : p ∈ ps
            · exact upsT_mem hm
            · rw [upsT_not hm]; exact hh p hp hm
          have out : ∀ p, inD (D ||| delL (wr c 0) ps) p = false → p ∉ ps → inD D p = false ∧ inD (wr c 0) p = false := fun p hp hm => by
            rw [inD_or, Bool.or_eq_false_iff, inD_delL] at hp
            exact ⟨hp.1, by simpa [hm] using hp.2⟩
          have hrx : r.r = rc.r ∧ r.x = rc.x ∧ ∀ D1, rc.n = some D1 → noneIn D1 ps = true ∧ Nat.beq (D1 ||| (D ||| delL (wr c 0) ps)) (D ||| delL (wr c 0) ps) = true := by
            unfold loopO at hc
            simp only at hc
            cases hn : rc.n with
            | none =>
              rw [hn] at hc
              obtain rfl := Option.some.inj hc
              exact ⟨rfl, rfl, nofun⟩
            | some D1 =>
              rw [hn] at hc
              simp only at hc
              cases ht : noneIn D1 ps && Nat.beq (D1 ||| (D ||| delL (wr c 0) ps)) (D ||| delL (wr c 0) ps) with
              | false => rw [ht] at hc; cases hc
              | true =>
                rw [ht] at hc
                obtain rfl := Option.some.inj hc
                exact ⟨rfl, rfl, fun D2 h2 => by obtain rfl := Option.some.inj h2; exact Bool.and_eq_true_iff.1 ht⟩
          obtain ⟨n, H⟩ := H
          have key : ∀ n σh h, agree (D ||| delL (wr c 0) ps) (upsT ps σm (tupOf ps σh)) σh → LPn (fun k a => cF P w0 c L (upsT ps σm a) E fun x σ => match x with
              | .normal => k (tupOf ps σ)
              | x => X x σ) n (tupOf ps σh) h → WC P w0 (.loop c) e σh d h Q := by
            intro n
            induction n with
            | zero => intro σh h _ H; exact H.elim
            | succ n ihn =>
              intro σh h hh H
              refine WC_loop hmix (ih hC hh H hE fun x D' σm' σ' h h1 h2 h3 h4 => ?_)
              have hk : keep (.loop c) σm σm' := fun p hp => (h3 p hp).trans (upsT_not fun hm => by
                have := allIn_of hps.2 hm
                rw [show inD (wr c 0) p = false from hp] at this
                cases this)
              cases x with
              | normal =>
                obtain ⟨q1, q2⟩ := hrx.2.2 D' h1
                have e1 : tupOf ps σm' = tupOf ps σ' := tup_eq fun p hp => h2 p (noneIn_of q1 hp)
                refine ihn σ' h (fit σ' fun p hp hm => ?_) (e1 ▸ h4)
                rw [← hk p (out p hp hm).2]
                refine h2 p ?_
                have e2 := Nat.eq_of_beq_eq_true q2
                rw [← e2, inD_or, Bool.or_eq_false_iff] at hp
                exact hp.1
              | ret => exact hX .ret D' _ _ _ (hrx.1.trans h1) h2 hk h4
              | exit id => exact hX (.exit id) D' _ _ _ (show (id, D') ∈ r.x by rw [hrx.2.1]; exact h1) h2 hk h4
              | pan v => exact h1.elim
          have e0 : tupOf ps σm = tupOf ps σ := tup_eq fun p hp => ha p (noneIn_of hps.1 hp)
          exact key n σ h (fit σ fun p hp hm => ha p (out p hp hm).1) (e0 ▸ H)
  | rangeF f ps a b iha ihb =>
    intro L D r σm σ h E X Q hc
    cases hc
  | exit id =>
    intro L D r σm σ h E X Q hc ha H hE hX
    obtain rfl := Option.some.inj hc
    exact hX (.exit id) D _ _ _ (List.mem_singleton.2 rfl) ha (fun _ _ => rfl) H
  | ret =>
    intro L D r σm σ h E X Q hc ha H hE hX
    obtain rfl := Option.some.inj hc
    exact hX .ret D _ _ _ rfl ha (fun _ _ => rfl) H
def resD (D : Nat) : List ARes → Bool
  | [] => true
  | .tmp p :: rs => !inD D p && resD D rs
  | .cell p _ :: rs => !inD D p && resD D rs
theorem resS_eq {D : Nat} {σ τ : Sl} (ha : agree D σ τ) {h : AH} : ∀ {rs : List ARes} {K : List Value → Prop}, resD D rs = true → resS rs σ h K = resS rs τ h K
  | [], _, _ => rfl
  | .tmp p :: rs, K, hd => by
    rw [resD, Bool.and_eq_true] at hd
    unfold resS
    rw [ha p (by simpa using hd.1), resS_eq ha hd.2]
  | .cell p none :: rs, K, hd => by
    rw [resD, Bool.and_eq_true] at hd
    unfold resS
    rw [ha p (by simpa using hd.1)]
    congr 1
    funext v h'
    rw [resS_eq ha hd.2]
  | .cell p (some n) :: rs, K, hd => by
    rw [resD, Bool.and_eq_true] at hd
    unfold resS
    rw [ha p (by simpa using hd.1)]
    congr 1
    funext v h'
    rw [resS_eq ha hd.2]
def fnD (af : AFn) (L : List (List Pos)) : Bool := match chkC af.code L 0 with
  | none => false
  | some r => (match r.n with
    | none => true
    | some D => resD D af.results) && (match r.r with
    | none => true
    | some D => resD D af.results)
theorem WF_F (hmix : P.follows .mixedOrders = true) {f : FuncId} {af : AFn} (hf : cFn P f = some af) (L : List (List Pos)) (hd : fnD af L = true) {args : List Value} {h : AH} {R : CR → AH → Prop}
    (H : cF P w0 af.code L (argS args) (fun v h => R (.pan v) h) (fun x σ h => endQ P w0 af.results R x σ ⟨[], .off⟩ h) h) : WF P w0 f args h R := by
  refine WF_enter hmix hf ?_
  unfold fnD at hd
  cases hc : chkC af.code L 0 with
  | none => rw [hc] at hd; cases hd
  | some r =>
    rw [hc] at hd
    simp only [Bool.and_eq_true] at hd
    refine cF_ok hmix af.code hc (fun _ _ => rfl) H (fun v σ h hv => hv) fun x D' σm' σ' h h1 h2 _ h4 => ?_
    cases x with
    | normal =>
      have h5 : resD D' af.results = true := by have := hd.1; rw [show r.n = some D' from h1] at this; exact this
      have h4 : resS af.results σm' h fun vs => R (.ret (tupV vs)) h := h4
      rw [resS_eq h2 h5] at h4
      exact h4
    | ret =>
      have h5 : resD D' af.results = true := by have := hd.2; rw [show r.r = some D' from h1] at this; exact this
      have h4 : resS af.results σm' h fun vs => R (.ret (tupV vs)) h := h4
      rw [resS_eq h2 h5] at h4
      exact h4
    | exit id => exact h4.elim
    | pan v => exact h1.elim
end
end
end Go.Ve
namespace Go.Ve.T
open Go.Ve Go.Proofs
noncomputable section
set_option maxRecDepth 10000
def g_core_within_F (w0 : World) (E R : Value → W) (x0 x1 x2 : Value) : W :=
  pr (.iop .leq) [x1, x0] fun v1 =>
  gd v1 true (fun k => k x0) fun v2 =>
  gd v1 true (fun k => k x2) fun v3 =>
  gd v1 true (fun k => pr (.iop .leq) [v2, v3] k) fun v4 =>
  pr (.pick) [v1, v4, (.bool false)] fun v5 =>
  R v5
theorem g_core_within_wp {w0 : World} {h : AH} {Q : CR → AH → Prop} (x0 x1 x2 : Value) (H : g_core_within_F w0 (fun v h => Q (.pan v) h) (fun v h => Q (.ret v) h) x0 x1 x2 h) : WF PP w0 id_core_within [x0, x1, x2] h Q :=
  WF_F hmix e75 [] (by kernel_rfl) (Eq.mp (by kernel_rfl) H)
def g_slices_IndexFunc_int_int_J1 (w0 : World) (E R : Value → W)  : W :=
  R (vi (-1))
def g_slices_IndexFunc_int_int_J4 (w0 : World) (E R : Value → W) (y3 : Value) (k2 : Value → W) : W :=
  pr (.iop .add) [y3, (vi 1)] fun v5 =>
  k2 v5
def g_slices_IndexFunc_int_int_J3 (w0 : World) (E R : Value → W) (x0 y3 x1 : Value) (k2 : Value → W) : W :=
  pr (.idxSlice 1) [x0, y3] fun v6 =>
  pr (.load1) [v6] fun v7 =>
  dy PP w0 [x1, v7] E fun v8 =>
  br v8 (
  R y3) (
  g_slices_IndexFunc_int_int_J4 w0 E R y3 k2)
def g_slices_IndexFunc_int_int_L2 (w0 : World) (E R : Value → W) (v1 x0 x1 : Value) (k2 : Value → W) (y3 : Value) : W :=
  pr (.iop .lss) [y3, v1] fun v4 =>
  br v4 (
  g_slices_IndexFunc_int_int_J3 w0 E R x0 y3 x1 k2) (
  g_slices_IndexFunc_int_int_J1 w0 E R )
def g_slices_IndexFunc_int_int_F (w0 : World) (E R : Value → W) (x0 x1 : Value) : W :=
  pr (.lenSl) [x0] fun v1 =>
  LP (α := Value) (fun k a => g_slices_IndexFunc_int_int_L2 w0 E R v1 x0 x1 k a) ((vi 0))
theorem g_slices_IndexFunc_int_int_wp {w0 : World} {h : AH} {Q : CR → AH → Prop} (x0 x1 : Value) (H : g_slices_IndexFunc_int_int_F w0 (fun v h => Q (.pan v) h) (fun v h => Q (.ret v) h) x0 x1 h) : WF PP w0 id_slices_IndexFunc_int_int [x0, x1] h Q :=
  WF_F hmix e134 [[s8]] (by kernel_rfl) (Eq.mp (by kernel_rfl) H)
def g_slices_ContainsFunc_int_int_F (w0 : World) (E R : Value → W) (x0 x1 : Value) : W :=
  cl PP w0 id_slices_IndexFunc_int_int [x0, x1] E fun v1 =>
  pr (.iop .geq) [v1, (vi 0)] fun v2 =>
  R v2
theorem g_slices_ContainsFunc_int_int_wp {w0 : World} {h : AH} {Q : CR → AH → Prop} (x0 x1 : Value) (H : g_slices_ContainsFunc_int_int_F w0 (fun v h => Q (.pan v) h) (fun v h => Q (.ret v) h) x0 x1 h) : WF PP w0 id_slices_ContainsFunc_int_int [x0, x1] h Q :=
  WF_F hmix e100 [] (by kernel_rfl) (Eq.mp (by kernel_rfl) H)
def g_core_parts_F (w0 : World) (E R : Value → W) (x0 : Value) : W :=
  pr (.box 67) [x0] fun v1 =>
  pr (.alloc 135 [(vi 0), (vi 0), (vi 0)]) [] fun v2 =>
  pr (.fieldAddr 1) [v1] fun v3 =>
  pr (.load1) [v3] fun v4 =>
  pr (.fieldAddr 2) [v1] fun v5 =>
  pr (.load1) [v5] fun v6 =>
  pr (.fieldAddr 3) [v1] fun v7 =>
  pr (.load1) [v7] fun v8 =>
  pr (.buildAll [1, 1, 1]) [v4, v6, v8] fun v9 =>
  pr (.store 3) [v2, v9] fun v10 =>
  ld (.loadN 3) [v2] fun v11 =>
  R v11
theorem g_core_parts_wp {w0 : World} {h : AH} {Q : CR → AH → Prop} (x0 : Value) (H : g_core_parts_F w0 (fun v h => Q (.pan v) h) (fun v h => Q (.ret v) h) x0 h) : WF PP w0 id_core_parts [x0] h Q :=
  WF_F hmix e87 [] (by kernel_rfl) (Eq.mp (by kernel_rfl) H)
def g_core_places_J1 (w0 : World) (E R : Value → W) (y9 : Value) : W :=
  R y9
def g_core_places_J4 (w0 : World) (E R : Value → W) (y14 : Value) (k12 : Value → Value → W) (y16 : Value) : W :=
  pr (.iop .add) [y14, (vi 1)] fun v17 =>
  k12 y16 v17
def g_core_places_J3 (w0 : World) (E R : Value → W) (v11 y14 v1 y13 : Value) (k12 : Value → Value → W) : W :=
  pr (.index1 3) [v11, y14] fun v18 =>
  pr (.iop .eql) [v18, (vi 3)] fun v19 =>
  br v19 (
  pr (.loadN 4) [v1] fun v20 =>
  cl PP w0 id_core_parts [v20] E fun v21 =>
  pr (.index1 3) [v21, y14] fun v22 =>
  pr (.buildSlice 3 1 [(vi 0)] [(0,1)]) [v22] fun v23 =>
  pr (.append 3 1 [(vi 0)]) [y13, v23] fun v24 =>
  g_core_places_J4 w0 E R y14 k12 v24) (
  g_core_places_J4 w0 E R y14 k12 y13)
def g_core_places_L2 (w0 : World) (E R : Value → W) (v11 v1 : Value) (k12 : Value → Value → W) (y13 y14 : Value) : W :=
  pr (.iop .lss) [y14, (vi 3)] fun v15 =>
  br v15 (
  g_core_places_J3 w0 E R v11 y14 v1 y13 k12) (
  g_core_places_J1 w0 E R  y13)
def g_core_places_F (w0 : World) (E R : Value → W) (x0 : Value) : W :=
  pr (.box 67) [x0] fun v1 =>
  pr (.fieldAddr 0) [v1] fun v2 =>
  pr (.load1) [v2] fun v3 =>
  cl PP w0 id_core_formOf [v3] E fun v4 =>
  pr (.extract 0) [v4] fun v5 =>
  pr (.extract 1) [v4] fun v6 =>
  pr (.alloc 138 [(bs []), (vi 0), (vi 0), (vi 0), (vi 0), (vi 0), (vi 0), (.bool false), (.bool false)]) [] fun v7 =>
  pr (.store 9) [v7, v5] fun v8 =>
  pr (.fieldAddr 1) [v7] fun v10 =>
  pr (.loadN 3) [v10] fun v11 =>
  LP (α := Value × Value) (fun k a => g_core_places_L2 w0 E R v11 v1 (fun b0 b1 => k (b0, b1)) a.1 a.2) (nilS, (vi 0))
theorem g_core_places_wp {w0 : World} {h : AH} {Q : CR → AH → Prop} (x0 : Value) (H : g_core_places_F w0 (fun v h => Q (.pan v) h) (fun v h => Q (.ret v) h) x0 h) : WF PP w0 id_core_places [x0] h Q :=
  WF_F hmix e101 [[s5, s16]] (by kernel_rfl) (Eq.mp (by kernel_rfl) H)
def g_slices_IndexFunc_api_Guard_api_Guard_J1 (w0 : World) (E R : Value → W)  : W :=
  R (vi (-1))
def g_slices_IndexFunc_api_Guard_api_Guard_J4 (w0 : World) (E R : Value → W) (y3 : Value) (k2 : Value → W) : W :=
  pr (.iop .add) [y3, (vi 1)] fun v5 =>
  k2 v5
def g_slices_IndexFunc_api_Guard_api_Guard_J3 (w0 : World) (E R : Value → W) (x0 y3 x1 : Value) (k2 : Value → W) : W :=
  pr (.idxSlice 3) [x0, y3] fun v6 =>
  pr (.loadN 3) [v6] fun v7 =>
  dy PP w0 [x1, v7] E fun v8 =>
  br v8 (
  R y3) (
  g_slices_IndexFunc_api_Guard_api_Guard_J4 w0 E R y3 k2)
def g_slices_IndexFunc_api_Guard_api_Guard_L2 (w0 : World) (E R : Value → W) (v1 x0 x1 : Value) (k2 : Value → W) (y3 : Value) : W :=
  pr (.iop .lss) [y3, v1] fun v4 =>
  br v4 (
  g_slices_IndexFunc_api_Guard_api_Guard_J3 w0 E R x0 y3 x1 k2) (
  g_slices_IndexFunc_api_Guard_api_Guard_J1 w0 E R )
def g_slices_IndexFunc_api_Guard_api_Guard_F (w0 : World) (E R : Value → W) (x0 x1 : Value) : W :=
  pr (.lenSl) [x0] fun v1 =>
  LP (α := Value) (fun k a => g_slices_IndexFunc_api_Guard_api_Guard_L2 w0 E R v1 x0 x1 k a) ((vi 0))
theorem g_slices_IndexFunc_api_Guard_api_Guard_wp {w0 : World} {h : AH} {Q : CR → AH → Prop} (x0 x1 : Value) (H : g_slices_IndexFunc_api_Guard_api_Guard_F w0 (fun v h => Q (.pan v) h) (fun v h => Q (.ret v) h) x0 x1 h) : WF PP w0 id_slices_IndexFunc_api_Guard_api_Guard [x0, x1] h Q :=
  WF_F hmix e123 [[s8]] (by kernel_rfl) (Eq.mp (by kernel_rfl) H)
def g_core_plain_1_F (w0 : World) (E R : Value → W) (x0 x1 : Value) : W :=
  pr (.load1) [x1] fun v1 =>
  pr (.iop .sub) [v1, (vi 1)] fun v2 =>
  cl PP w0 id_core_within [x0, (vi 0), v2] E fun v3 =>
  pr (.notB) [v3] fun v4 =>
  R v4
theorem g_core_plain_1_wp {w0 : World} {h : AH} {Q : CR → AH → Prop} (x0 x1 : Value) (H : g_core_plain_1_F w0 (fun v h => Q (.pan v) h) (fun v h => Q (.ret v) h) x0 x1 h) : WF PP w0 id_core_plain_1 [x0, x1] h Q :=
  WF_F hmix e102 [] (by kernel_rfl) (Eq.mp (by kernel_rfl) H)
def g_core_plain_2_P1 (w0 : World) (E R : Value → W) (v1 x1 v15 : Value) : W :=
  gd v15 false (fun k => pr (.fieldAddr 2) [v1] k) fun v16 =>
  gd v15 false (fun k => pr (.load1) [v16] k) fun v17 =>
  gd v15 false (fun k => pr (.load1) [x1] k) fun v18 =>
  gd v15 false (fun k => pr (.iop .sub) [v18, (vi 1)] k) fun v19 =>
  gd v15 false (fun k => cl PP w0 id_core_within [v17, (vi 0), v19] E k) fun v20 =>
  gd v15 false (fun k => pr (.notB) [v20] k) fun v21 =>
  pr (.pick) [v15, (.bool true), v21] fun v22 =>
  R v22
def g_core_plain_2_P2 (w0 : World) (E R : Value → W) (v1 x1 v10 : Value) : W :=
  gd v10 false (fun k => pr (.fieldAddr 1) [v1] k) fun v11 =>
  gd v10 false (fun k => pr (.load1) [v11] k) fun v12 =>
  gd v10 false (fun k => pr (.load1) [x1] k) fun v13 =>
  gd v10 false (fun k => pr (.iop .gtr) [v12, v13] k) fun v14 =>
  pr (.pick) [v10, (.bool true), v14] fun v15 =>
  g_core_plain_2_P1 w0 E R v1 x1 v15
def g_core_plain_2_F (w0 : World) (E R : Value → W) (x0 x1 : Value) : W :=
  pr (.box 79) [x0] fun v1 =>
  pr (.fieldAddr 0) [v1] fun v2 =>
  pr (.load1) [v2] fun v3 =>
  pr (.iop .lss) [v3, (vi 0)] fun v4 =>
  gd v4 false (fun k => pr (.fieldAddr 0) [v1] k) fun v5 =>
  gd v4 false (fun k => pr (.load1) [v5] k) fun v6 =>
  gd v4 false (fun k => pr (.fieldAddr 1) [v1] k) fun v7 =>
  gd v4 false (fun k => pr (.load1) [v7] k) fun v8 =>
  gd v4 false (fun k => pr (.iop .geq) [v6, v8] k) fun v9 =>
  pr (.pick) [v4, (.bool true), v9] fun v10 =>
  g_core_plain_2_P2 w0 E R v1 x1 v10
theorem g_core_plain_2_wp {w0 : World} {h : AH} {Q : CR → AH → Prop} (x0 x1 : Value) (H : g_core_plain_2_F w0 (fun v h => Q (.pan v) h) (fun v h => Q (.ret v) h) x0 x1 h) : WF PP w0 id_core_plain_2 [x0, x1] h Q :=
  WF_F hmix e104 [] (by kernel_rfl) (Eq.mp (by kernel_rfl) H)
def g_slices_ContainsFunc_api_Guard_api_Guard_F (w0 : World) (E R : Value → W) (x0 x1 : Value) : W :=
  cl PP w0 id_slices_IndexFunc_api_Guard_api_Guard [x0, x1] E fun v1 =>
  pr (.iop .geq) [v1, (vi 0)] fun v2 =>
  R v2
theorem g_slices_ContainsFunc_api_Guard_api_Guard_wp {w0 : World} {h : AH} {Q : CR → AH → Prop} (x0 x1 : Value) (H : g_slices_ContainsFunc_api_Guard_api_Guard_F w0 (fun v h => Q (.pan v) h) (fun v h => Q (.ret v) h) x0 x1 h) : WF PP w0 id_slices_ContainsFunc_api_Guard_api_Guard [x0, x1] h Q :=
  WF_F hmix e103 [] (by kernel_rfl) (Eq.mp (by kernel_rfl) H)
def g_core_plain_J2 (w0 : World) (E R : Value → W) (v1 v5 : Value) : W :=
  pr (.fieldAddr 6) [v1] fun v7 =>
  pr (.load1) [v7] fun v8 =>
  pr (.mkFunc (.func id_core_plain_2) 0) [v5] fun v9 =>
  cl PP w0 id_slices_ContainsFunc_api_Guard_api_Guard [v8, v9] E fun v10 =>
  pr (.notB) [v10] fun v11 =>
  R v11
def g_core_plain_J5 (w0 : World) (E R : Value → W) (y16 : Value) (k15 : Value → W) : W :=
  pr (.iop .add) [y16, (vi 1)] fun v18 =>
  k15 v18
def g_core_plain_P1 (w0 : World) (E R : Value → W) (y16 : Value) (k15 : Value → W) (v35 : Value) : W :=
  br v35 (
  R (.bool false)) (
  g_core_plain_J5 w0 E R y16 k15)
def g_core_plain_J4 (w0 : World) (E R : Value → W) (v13 y16 v5 : Value) (k15 : Value → W) : W :=
  pr (.idxSlice 4) [v13, y16] fun v19 =>
  pr (.loadN 4) [v19] fun v20 =>
  pr (.alloc 67 [(vi 0), (vi 0), (vi 0), (vi 0)]) [] fun v21 =>
  pr (.store 4) [v21, v20] fun v22 =>
  pr (.fieldAddr 0) [v21] fun v23 =>
  pr (.load1) [v23] fun v24 =>
  cl PP w0 id_core_formOf [v24] E fun v25 =>
  pr (.extract 0) [v25] fun v26 =>
  pr (.extract 1) [v25] fun v27 =>
  pr (.alloc 138 [(bs []), (vi 0), (vi 0), (vi 0), (vi 0), (vi 0), (vi 0), (.bool false), (.bool false)]) [] fun v28 =>
  pr (.store 9) [v28, v26] fun v29 =>
  pr (.notB) [v27] fun v30 =>
  gd v30 false (fun k => pr (.loadN 4) [v21] k) fun v31 =>
  gd v30 false (fun k => cl PP w0 id_core_places [v31] E k) fun v32 =>
  gd v30 false (fun k => pr (.mkFunc (.func id_core_plain_1) 0) [v5] k) fun v33 =>
  gd v30 false (fun k => cl PP w0 id_slices_ContainsFunc_int_int [v32, v33] E k) fun v34 =>
  pr (.pick) [v30, (.bool true), v34] fun v35 =>
  g_core_plain_P1 w0 E R y16 k15 v35
def g_core_plain_L3 (w0 : World) (E R : Value → W) (v14 v13 v5 v1 : Value) (k15 : Value → W) (y16 : Value) : W :=
  pr (.iop .lss) [y16, v14] fun v17 =>
  br v17 (
  g_core_plain_J4 w0 E R v13 y16 v5 k15) (
  g_core_plain_J2 w0 E R v1 v5)
def g_core_plain_J1 (w0 : World) (E R : Value → W) (v1 v5 : Value) : W :=
  pr (.fieldAddr 5) [v1] fun v12 =>
  pr (.load1) [v12] fun v13 =>
  pr (.lenSl) [v13] fun v14 =>
  LP (α := Value) (fun k a => g_core_plain_L3 w0 E R v14 v13 v5 v1 k a) ((vi 0))
def g_core_plain_P2 (w0 : World) (E R : Value → W) (v1 v5 v53 : Value) : W :=
  br v53 (
  R (.bool false)) (
  g_core_plain_J1 w0 E R v1 v5)
def g_core_plain_P3 (w0 : World) (E R : Value → W) (v1 v5 v48 : Value) : W :=
  gd v48 false (fun k => pr (.fieldAddr 4) [v1] k) fun v49 =>
  gd v48 false (fun k => pr (.load1) [v49] k) fun v50 =>
  gd v48 false (fun k => cl PP w0 id_core_within [v50, (vi 0), (vi 200)] E k) fun v51 =>
  gd v48 false (fun k => pr (.notB) [v51] k) fun v52 =>
  pr (.pick) [v48, (.bool true), v52] fun v53 =>
  g_core_plain_P2 w0 E R v1 v5 v53
def g_core_plain_P4 (w0 : World) (E R : Value → W) (v1 v5 v43 : Value) : W :=
  gd v43 false (fun k => pr (.fieldAddr 3) [v1] k) fun v44 =>
  gd v43 false (fun k => pr (.load1) [v44] k) fun v45 =>
  gd v43 false (fun k => cl PP w0 id_core_within [v45, (vi 0), (vi 200)] E k) fun v46 =>
  gd v43 false (fun k => pr (.notB) [v46] k) fun v47 =>
  pr (.pick) [v43, (.bool true), v47] fun v48 =>
  g_core_plain_P3 w0 E R v1 v5 v48
def g_core_plain_F (w0 : World) (E R : Value → W) (x0 : Value) : W :=
  pr (.box 25) [x0] fun v1 =>
  pr (.fieldAddr 5) [v1] fun v2 =>
  pr (.load1) [v2] fun v3 =>
  pr (.lenSl) [v3] fun v4 =>
  pr (.alloc 3 [(vi 0)]) [] fun v5 =>
  pr (.store 1) [v5, v4] fun v6 =>
  pr (.load1) [v5] fun v36 =>
  cl PP w0 id_core_within [v36, (vi 1), (vi 600)] E fun v37 =>
  pr (.notB) [v37] fun v38 =>
  gd v38 false (fun k => pr (.fieldAddr 6) [v1] k) fun v39 =>
  gd v38 false (fun k => pr (.load1) [v39] k) fun v40 =>
  gd v38 false (fun k => pr (.lenSl) [v40] k) fun v41 =>
  gd v38 false (fun k => pr (.iop .gtr) [v41, (vi 40)] k) fun v42 =>
  pr (.pick) [v38, (.bool true), v42] fun v43 =>
  g_core_plain_P4 w0 E R v1 v5 v43
theorem g_core_plain_wp {w0 : World} {h : AH} {Q : CR → AH → Prop} (x0 : Value) (H : g_core_plain_F w0 (fun v h => Q (.pan v) h) (fun v h => Q (.ret v) h) x0 h) : WF PP w0 id_core_plain [x0] h Q :=
  WF_F hmix e53 [[s35]] (by kernel_rfl) (Eq.mp (by kernel_rfl) H)
def g_slices_Clone_int_int_J1 (w0 : World) (E R : Value → W) (x0 : Value) : W :=
  pr (.buildSlice 3 0 [] []) [] fun v1 =>
  pr (.append 3 1 [(vi 0)]) [v1, x0] fun v2 =>
  R v2
def g_slices_Clone_int_int_F (w0 : World) (E R : Value → W) (x0 : Value) : W :=
  pr (.eqNil 1 false) [x0, nilS] fun v3 =>
  br v3 (
  R nilS) (
  g_slices_Clone_int_int_J1 w0 E R x0)
theorem g_slices_Clone_int_int_wp {w0 : World} {h : AH} {Q : CR → AH → Prop} (x0 : Value) (H : g_slices_Clone_int_int_F w0 (fun v h => Q (.pan v) h) (fun v h => Q (.ret v) h) x0 h) : WF PP w0 id_slices_Clone_int_int [x0] h Q :=
  WF_F hmix e65 [] (by kernel_rfl) (Eq.mp (by kernel_rfl) H)
def g_core_Cut_J5 (w0 : World) (E R : Value → W) (v4 v2 y10 : Value) : W :=
  pr (.loadN 7) [v4] fun v15 =>
  pr (.store 7) [v2, v15] fun v16 =>
  ld (.loadN 7) [v2] fun v17 =>
  R (.tuple ⟨[v17, y10, (vi 0)]⟩)
def g_core_Cut_J8 (w0 : World) (E R : Value → W) (y22 : Value) (k21 : Value → W) : W :=
  pr (.iop .add) [y22, (vi 1)] fun v24 =>
  k21 v24
def g_core_Cut_J7 (w0 : World) (E R : Value → W) (v19 y22 v14 y10 v4 : Value) (k21 : Value → W) : W :=
  pr (.idxSlice 3) [v19, y22] fun v25 =>
  pr (.loadN 3) [v25] fun v26 =>
  pr (.alloc 79 [(vi 0), (vi 0), (vi 0)]) [] fun v27 =>
  pr (.store 3) [v27, v26] fun v28 =>
  pr (.fieldAddr 0) [v27] fun v29 =>
  pr (.load1) [v29] fun v30 =>
  pr (.idxSlice 1) [v14, v30] fun v31 =>
  pr (.load1) [v31] fun v32 =>
  pr (.fieldAddr 1) [v27] fun v33 =>
  pr (.load1) [v33] fun v34 =>
  pr (.idxSlice 1) [v14, v34] fun v35 =>
  pr (.load1) [v35] fun v36 =>
  pr (.fieldAddr 2) [v27] fun v37 =>
  pr (.load1) [v37] fun v38 =>
  pr (.idxSlice 1) [y10, v38] fun v39 =>
  pr (.load1) [v39] fun v40 =>
  pr (.buildAll [1, 1, 1]) [v32, v36, v40] fun v41 =>
  pr (.alloc 79 [(vi 0), (vi 0), (vi 0)]) [] fun v42 =>
  pr (.store 3) [v42, v41] fun v43 =>
  pr (.fieldAddr 0) [v42] fun v44 =>
  pr (.load1) [v44] fun v45 =>
  pr (.fieldAddr 1) [v42] fun v46 =>
  pr (.load1) [v46] fun v47 =>
  pr (.iop .lss) [v45, v47] fun v48 =>
  br v48 (
  pr (.fieldAddr 6) [v4] fun v49 =>
  pr (.load1) [v49] fun v50 =>
  pr (.loadN 3) [v42] fun v51 =>
  pr (.buildSlice 79 1 [(vi 0), (vi 0), (vi 0)] [(0,3)]) [v51] fun v52 =>
  pr (.append 79 3 [(vi 0), (vi 0), (vi 0)]) [v50, v52] fun v53 =>
  pr (.fieldAddr 6) [v4] fun v54 =>
  pr (.store 1) [v54, v53] fun v55 =>
  g_core_Cut_J8 w0 E R y22 k21) (
  g_core_Cut_J8 w0 E R y22 k21)
def g_core_Cut_L6 (w0 : World) (E R : Value → W) (v20 v19 v14 y10 v4 v2 : Value) (k21 : Value → W) (y22 : Value) : W :=
  pr (.iop .lss) [y22, v20] fun v23 =>
  br v23 (
  g_core_Cut_J7 w0 E R v19 y22 v14 y10 v4 k21) (
  g_core_Cut_J5 w0 E R v4 v2 y10)
def g_core_Cut_J4 (w0 : World) (E R : Value → W) (y10 y11 v1 v4 v2 : Value) : W :=
  cl PP w0 id_slices_Clone_int_int [y10] E fun v12 =>
  pr (.buildSlice 3 1 [(vi 0)] [(0,1)]) [y11] fun v13 =>
  pr (.append 3 1 [(vi 0)]) [v12, v13] fun v14 =>
  pr (.fieldAddr 6) [v1] fun v18 =>
  pr (.load1) [v18] fun v19 =>
  pr (.lenSl) [v19] fun v20 =>
  LP (α := Value) (fun k a => g_core_Cut_L6 w0 E R v20 v19 v14 y10 v4 v2 k a) ((vi 0))
def g_core_Cut_J11 (w0 : World) (E R : Value → W) (y60 : Value) (k59 : Value → W) : W :=
  pr (.iop .add) [y60, (vi 1)] fun v62 =>
  k59 v62
def g_core_Cut_J13 (w0 : World) (E R : Value → W) (v4 v65 y60 : Value) (k59 : Value → W) : W :=
  pr (.fieldAddr 5) [v4] fun v67 =>
  pr (.load1) [v67] fun v68 =>
  pr (.loadN 4) [v65] fun v69 =>
  pr (.buildSlice 67 1 [(vi 0), (vi 0), (vi 0), (vi 0)] [(0,4)]) [v69] fun v70 =>
  pr (.append 67 4 [(vi 0), (vi 0), (vi 0), (vi 0)]) [v68, v70] fun v71 =>
  pr (.fieldAddr 5) [v4] fun v72 =>
  pr (.store 1) [v72, v71] fun v73 =>
  g_core_Cut_J11 w0 E R y60 k59
def g_core_Cut_J14 (w0 : World) (E R : Value → W) (v65 y10 v4 y60 : Value) (k59 : Value → W) (y83 : Value) : W :=
  br y83 (
  pr (.fieldAddr 2) [v65] fun v84 =>
  pr (.load1) [v84] fun v85 =>
  pr (.idxSlice 1) [y10, v85] fun v86 =>
  pr (.load1) [v86] fun v87 =>
  pr (.fieldAddr 2) [v65] fun v88 =>
  pr (.store 1) [v88, v87] fun v89 =>
  g_core_Cut_J13 w0 E R v4 v65 y60 k59) (
  g_core_Cut_J13 w0 E R v4 v65 y60 k59)
def g_core_Cut_J12 (w0 : World) (E R : Value → W) (v65 y10 v4 y60 : Value) (k59 : Value → W) : W :=
  pr (.fieldAddr 0) [v65] fun v74 =>
  pr (.load1) [v74] fun v75 =>
  pr (.iop .eql) [v75, (vi 24)] fun v76 =>
  br v76 (
  pr (.fieldAddr 1) [v65] fun v77 =>
  pr (.load1) [v77] fun v78 =>
  pr (.idxSlice 1) [y10, v78] fun v79 =>
  pr (.load1) [v79] fun v80 =>
  pr (.fieldAddr 1) [v65] fun v81 =>
  pr (.store 1) [v81, v80] fun v82 =>
  g_core_Cut_J13 w0 E R v4 v65 y60 k59) (
  pr (.iop .eql) [v75, (vi 25)] fun v90 =>
  br v90 (
  g_core_Cut_J14 w0 E R v65 y10 v4 y60 k59 v90) (
  pr (.iop .eql) [v75, (vi 32)] fun v91 =>
  g_core_Cut_J14 w0 E R v65 y10 v4 y60 k59 v91))
def g_core_Cut_J10 (w0 : World) (E R : Value → W) (v57 y60 x1 : Value) (k59 : Value → W) (y10 v4 : Value) : W :=
  pr (.idxSlice 4) [v57, y60] fun v63 =>
  pr (.loadN 4) [v63] fun v64 =>
  pr (.alloc 67 [(vi 0), (vi 0), (vi 0), (vi 0)]) [] fun v65 =>
  pr (.store 4) [v65, v64] fun v66 =>
  pr (.idxSlice 1) [x1, y60] fun v92 =>
  pr (.load1) [v92] fun v93 =>
  pr (.notB) [v93] fun v94 =>
  br v94 (
  g_core_Cut_J11 w0 E R y60 k59) (
  g_core_Cut_J12 w0 E R v65 y10 v4 y60 k59)
def g_core_Cut_L9 (w0 : World) (E R : Value → W) (v58 v57 x1 y10 v4 y11 v1 v2 : Value) (k59 : Value → W) (y60 : Value) : W :=
  pr (.iop .lss) [y60, v58] fun v61 =>
  br v61 (
  g_core_Cut_J10 w0 E R v57 y60 x1 k59 y10 v4) (
  g_core_Cut_J4 w0 E R y10 y11 v1 v4 v2)
def g_core_Cut_J3 (w0 : World) (E R : Value → W) (v1 x1 v4 v2 y10 y11 : Value) : W :=
  pr (.fieldAddr 5) [v1] fun v56 =>
  pr (.load1) [v56] fun v57 =>
  pr (.lenSl) [v57] fun v58 =>
  LP (α := Value) (fun k a => g_core_Cut_L9 w0 E R v58 v57 x1 y10 v4 y11 v1 v2 k a) ((vi 0))
def g_core_Cut_J17 (w0 : World) (E R : Value → W) (y99 : Value) (k96 : Value → Value → Value → W) (y101 y102 : Value) : W :=
  pr (.iop .add) [y99, (vi 1)] fun v103 =>
  k96 y101 y102 v103
def g_core_Cut_J16 (w0 : World) (E R : Value → W) (x1 y99 y98 y97 : Value) (k96 : Value → Value → Value → W) : W :=
  pr (.idxSlice 1) [x1, y99] fun v104 =>
  pr (.load1) [v104] fun v105 =>
  pr (.buildSlice 3 1 [(vi 0)] [(0,1)]) [y98] fun v106 =>
  pr (.append 3 1 [(vi 0)]) [y97, v106] fun v107 =>
  br v105 (
  pr (.iop .add) [y98, (vi 1)] fun v108 =>
  g_core_Cut_J17 w0 E R y99 k96 v107 v108) (
  g_core_Cut_J17 w0 E R y99 k96 v107 y98)
def g_core_Cut_L15 (w0 : World) (E R : Value → W) (v95 x1 v1 v4 v2 : Value) (k96 : Value → Value → Value → W) (y97 y98 y99 : Value) : W :=
  pr (.iop .lss) [y99, v95] fun v100 =>
  br v100 (
  g_core_Cut_J16 w0 E R x1 y99 y98 y97 k96) (
  g_core_Cut_J3 w0 E R v1 x1 v4 v2 y97 y98)
def g_core_Cut_J2 (w0 : World) (E R : Value → W) (v1 x1 v2 : Value) : W :=
  pr (.loadN 7) [v1] fun v3 =>
  pr (.alloc 25 [(bs []), (bs []), (vi 0), (vi 0), (vi 0), nilS, nilS]) [] fun v4 =>
  pr (.store 7) [v4, v3] fun v5 =>
  pr (.fieldAddr 5) [v4] fun v6 =>
  pr (.store 1) [v6, nilS] fun v7 =>
  pr (.fieldAddr 6) [v4] fun v8 =>
  pr (.store 1) [v8, nilS] fun v9 =>
  pr (.lenSl) [x1] fun v95 =>
  LP (α := Value × Value × Value) (fun k a => g_core_Cut_L15 w0 E R v95 x1 v1 v4 v2 (fun b0 b1 b2 => k (b0, b1, b2)) a.1 a.2.1 a.2.2) (nilS, (vi 0), (vi 0))
def g_core_Cut_J1 (w0 : World) (E R : Value → W) (x1 v2 v1 : Value) : W :=
  pr (.lenSl) [x1] fun v109 =>
  pr (.iop .sub) [v109, (vi 1)] fun v110 =>
  pr (.idxSlice 1) [x1, v110] fun v111 =>
  pr (.load1) [v111] fun v112 =>
  pr (.notB) [v112] fun v113 =>
  br v113 (
  pr (.build [(bs []), (bs []), (vi 0), (vi 0), (vi 0), nilS, nilS] []) [] fun v114 =>
  pr (.store 7) [v2, v114] fun v115 =>
  ld (.loadN 7) [v2] fun v116 =>
  R (.tuple ⟨[v116, nilS, (vi 2)]⟩)) (
  g_core_Cut_J2 w0 E R v1 x1 v2)
def g_core_Cut_P1 (w0 : World) (E R : Value → W) (v2 x1 v1 v126 : Value) : W :=
  br v126 (
  pr (.build [(bs []), (bs []), (vi 0), (vi 0), (vi 0), nilS, nilS] []) [] fun v127 =>
  pr (.store 7) [v2, v127] fun v128 =>
  ld (.loadN 7) [v2] fun v129 =>
  R (.tuple ⟨[v129, nilS, (vi 1)]⟩)) (
  g_core_Cut_J1 w0 E R x1 v2 v1)
def g_core_Cut_F (w0 : World) (E R : Value → W) (x0 x1 : Value) : W :=
  pr (.box 25) [x0] fun v1 =>
  pr (.alloc 25 [(bs []), (bs []), (vi 0), (vi 0), (vi 0), nilS, nilS]) [] fun v2 =>
  pr (.loadN 7) [v1] fun v117 =>
  cl PP w0 id_core_plain [v117] E fun v118 =>
  pr (.notB) [v118] fun v119 =>
  gd v119 false (fun k => k x1) fun v120 =>
  gd v119 false (fun k => pr (.lenSl) [v120] k) fun v121 =>
  gd v119 false (fun k => pr (.fieldAddr 5) [v1] k) fun v122 =>
  gd v119 false (fun k => pr (.load1) [v122] k) fun v123 =>
  gd v119 false (fun k => pr (.lenSl) [v123] k) fun v124 =>
  gd v119 false (fun k => pr (.iop .neq) [v121, v124] k) fun v125 =>
  pr (.pick) [v119, (.bool true), v125] fun v126 =>
  g_core_Cut_P1 w0 E R v2 x1 v1 v126
theorem g_core_Cut_wp {w0 : World} {h : AH} {Q : CR → AH → Prop} (x0 x1 : Value) (H : g_core_Cut_F w0 (fun v h => Q (.pan v) h) (fun v h => Q (.ret v) h) x0 x1 h) : WF PP w0 id_core_Cut [x0, x1] h Q :=
  WF_F hmix e20 [[s8, s9, s43], [s58], [s102]] (by kernel_rfl) (Eq.mp (by kernel_rfl) H)
def g_cosignerref08_SameInts_J2 (w0 : World) (E R : Value → W)  : W :=
  R (.bool true)
def g_cosignerref08_SameInts_J5 (w0 : World) (E R : Value → W) (y2 : Value) (k1 : Value → W) : W :=
  pr (.iop .add) [y2, (vi 1)] fun v3 =>
  k1 v3
def g_cosignerref08_SameInts_J4 (w0 : World) (E R : Value → W) (x0 y2 x1 : Value) (k1 : Value → W) : W :=
  pr (.idxSlice 1) [x0, y2] fun v4 =>
  pr (.load1) [v4] fun v5 =>
  pr (.idxSlice 1) [x1, y2] fun v6 =>
  pr (.load1) [v6] fun v7 =>
  pr (.iop .neq) [v5, v7] fun v8 =>
  br v8 (
  R (.bool false)) (
  g_cosignerref08_SameInts_J5 w0 E R y2 k1)
def g_cosignerref08_SameInts_L3 (w0 : World) (E R : Value → W) (x0 x1 : Value) (k1 : Value → W) (y2 : Value) : W :=
  pr (.lenSl) [x0] fun v9 =>
  pr (.iop .lss) [y2, v9] fun v10 =>
  br v10 (
  g_cosignerref08_SameInts_J4 w0 E R x0 y2 x1 k1) (
  g_cosignerref08_SameInts_J2 w0 E R )
def g_cosignerref08_SameInts_J1 (w0 : World) (E R : Value → W) (x0 x1 : Value) : W :=
  LP (α := Value) (fun k a => g_cosignerref08_SameInts_L3 w0 E R x0 x1 k a) ((vi 0))
def g_cosignerref08_SameInts_F (w0 : World) (E R : Value → W) (x0 x1 : Value) : W :=
  pr (.lenSl) [x0] fun v11 =>
  pr (.lenSl) [x1] fun v12 =>
  pr (.iop .neq) [v11, v12] fun v13 =>
  br v13 (
  R (.bool false)) (
  g_cosignerref08_SameInts_J1 w0 E R x0 x1)
theorem g_cosignerref08_SameInts_wp {w0 : World} {h : AH} {Q : CR → AH → Prop} (x0 x1 : Value) (H : g_cosignerref08_SameInts_F w0 (fun v h => Q (.pan v) h) (fun v h => Q (.ret v) h) x0 x1 h) : WF PP w0 id_cosignerref08_SameInts [x0, x1] h Q :=
  WF_F hmix e16 [[s5]] (by kernel_rfl) (Eq.mp (by kernel_rfl) H)
def g_cosignerref08_SameUnits_J3 (w0 : World) (E R : Value → W)  : W :=
  R (.bool true)
def g_cosignerref08_SameUnits_J6 (w0 : World) (E R : Value → W) (y4 : Value) (k3 : Value → W) : W :=
  pr (.iop .add) [y4, (vi 1)] fun v5 =>
  k3 v5
def g_cosignerref08_SameUnits_J5 (w0 : World) (E R : Value → W) (v1 y4 v2 : Value) (k3 : Value → W) : W :=
  pr (.fieldAddr 6) [v1] fun v6 =>
  pr (.load1) [v6] fun v7 =>
  pr (.idxSlice 3) [v7, y4] fun v8 =>
  pr (.loadN 3) [v8] fun v9 =>
  pr (.fieldAddr 6) [v2] fun v10 =>
  pr (.load1) [v10] fun v11 =>
  pr (.idxSlice 3) [v11, y4] fun v12 =>
  pr (.loadN 3) [v12] fun v13 =>
  pr (.eqAgg true [0, 0, 0]) [v9, v13] fun v14 =>
  br v14 (
  R (.bool false)) (
  g_cosignerref08_SameUnits_J6 w0 E R y4 k3)
def g_cosignerref08_SameUnits_L4 (w0 : World) (E R : Value → W) (v1 v2 : Value) (k3 : Value → W) (y4 : Value) : W :=
  pr (.fieldAddr 6) [v1] fun v15 =>
  pr (.load1) [v15] fun v16 =>
  pr (.lenSl) [v16] fun v17 =>
  pr (.iop .lss) [y4, v17] fun v18 =>
  br v18 (
  g_cosignerref08_SameUnits_J5 w0 E R v1 y4 v2 k3) (
  g_cosignerref08_SameUnits_J3 w0 E R )
def g_cosignerref08_SameUnits_J2 (w0 : World) (E R : Value → W) (v1 v2 : Value) : W :=
  LP (α := Value) (fun k a => g_cosignerref08_SameUnits_L4 w0 E R v1 v2 k a) ((vi 0))
def g_cosignerref08_SameUnits_J9 (w0 : World) (E R : Value → W) (y20 : Value) (k19 : Value → W) : W :=
  pr (.iop .add) [y20, (vi 1)] fun v21 =>
  k19 v21
def g_cosignerref08_SameUnits_J8 (w0 : World) (E R : Value → W) (v1 y20 v2 : Value) (k19 : Value → W) : W :=
  pr (.fieldAddr 5) [v1] fun v22 =>
  pr (.load1) [v22] fun v23 =>
  pr (.idxSlice 4) [v23, y20] fun v24 =>
  pr (.loadN 4) [v24] fun v25 =>
  pr (.fieldAddr 5) [v2] fun v26 =>
  pr (.load1) [v26] fun v27 =>
  pr (.idxSlice 4) [v27, y20] fun v28 =>
  pr (.loadN 4) [v28] fun v29 =>
  pr (.eqAgg true [0, 0, 0, 0]) [v25, v29] fun v30 =>
  br v30 (
  R (.bool false)) (
  g_cosignerref08_SameUnits_J9 w0 E R y20 k19)
def g_cosignerref08_SameUnits_L7 (w0 : World) (E R : Value → W) (v1 v2 : Value) (k19 : Value → W) (y20 : Value) : W :=
  pr (.fieldAddr 5) [v1] fun v31 =>
  pr (.load1) [v31] fun v32 =>
  pr (.lenSl) [v32] fun v33 =>
  pr (.iop .lss) [y20, v33] fun v34 =>
  br v34 (
  g_cosignerref08_SameUnits_J8 w0 E R v1 y20 v2 k19) (
  g_cosignerref08_SameUnits_J2 w0 E R v1 v2)
def g_cosignerref08_SameUnits_J1 (w0 : World) (E R : Value → W) (v1 v2 : Value) : W :=
  LP (α := Value) (fun k a => g_cosignerref08_SameUnits_L7 w0 E R v1 v2 k a) ((vi 0))
def g_cosignerref08_SameUnits_P1 (w0 : World) (E R : Value → W) (v1 v2 v79 : Value) : W :=
  br v79 (
  R (.bool false)) (
  g_cosignerref08_SameUnits_J1 w0 E R v1 v2)
def g_cosignerref08_SameUnits_P2 (w0 : World) (E R : Value → W) (v1 v2 v71 : Value) : W :=
  gd v71 false (fun k => pr (.fieldAddr 6) [v1] k) fun v72 =>
  gd v71 false (fun k => pr (.load1) [v72] k) fun v73 =>
  gd v71 false (fun k => pr (.lenSl) [v73] k) fun v74 =>
  gd v71 false (fun k => pr (.fieldAddr 6) [v2] k) fun v75 =>
  gd v71 false (fun k => pr (.load1) [v75] k) fun v76 =>
  gd v71 false (fun k => pr (.lenSl) [v76] k) fun v77 =>
  gd v71 false (fun k => pr (.iop .neq) [v74, v77] k) fun v78 =>
  pr (.pick) [v71, (.bool true), v78] fun v79 =>
  g_cosignerref08_SameUnits_P1 w0 E R v1 v2 v79
def g_cosignerref08_SameUnits_P3 (w0 : World) (E R : Value → W) (v1 v2 v63 : Value) : W :=
  gd v63 false (fun k => pr (.fieldAddr 5) [v1] k) fun v64 =>
  gd v63 false (fun k => pr (.load1) [v64] k) fun v65 =>
  gd v63 false (fun k => pr (.lenSl) [v65] k) fun v66 =>
  gd v63 false (fun k => pr (.fieldAddr 5) [v2] k) fun v67 =>
  gd v63 false (fun k => pr (.load1) [v67] k) fun v68 =>
  gd v63 false (fun k => pr (.lenSl) [v68] k) fun v69 =>
  gd v63 false (fun k => pr (.iop .neq) [v66, v69] k) fun v70 =>
  pr (.pick) [v63, (.bool true), v70] fun v71 =>
  g_cosignerref08_SameUnits_P2 w0 E R v1 v2 v71
def g_cosignerref08_SameUnits_P4 (w0 : World) (E R : Value → W) (v1 v2 v57 : Value) : W :=
  gd v57 false (fun k => pr (.fieldAddr 4) [v1] k) fun v58 =>
  gd v57 false (fun k => pr (.load1) [v58] k) fun v59 =>
  gd v57 false (fun k => pr (.fieldAddr 4) [v2] k) fun v60 =>
  gd v57 false (fun k => pr (.load1) [v60] k) fun v61 =>
  gd v57 false (fun k => pr (.iop .neq) [v59, v61] k) fun v62 =>
  pr (.pick) [v57, (.bool true), v62] fun v63 =>
  g_cosignerref08_SameUnits_P3 w0 E R v1 v2 v63
def g_cosignerref08_SameUnits_P5 (w0 : World) (E R : Value → W) (v1 v2 v51 : Value) : W :=
  gd v51 false (fun k => pr (.fieldAddr 3) [v1] k) fun v52 =>
  gd v51 false (fun k => pr (.load1) [v52] k) fun v53 =>
  gd v51 false (fun k => pr (.fieldAddr 3) [v2] k) fun v54 =>
  gd v51 false (fun k => pr (.load1) [v54] k) fun v55 =>
  gd v51 false (fun k => pr (.iop .neq) [v53, v55] k) fun v56 =>
  pr (.pick) [v51, (.bool true), v56] fun v57 =>
  g_cosignerref08_SameUnits_P4 w0 E R v1 v2 v57
def g_cosignerref08_SameUnits_P6 (w0 : World) (E R : Value → W) (v1 v2 v45 : Value) : W :=
  gd v45 false (fun k => pr (.fieldAddr 2) [v1] k) fun v46 =>
  gd v45 false (fun k => pr (.load1) [v46] k) fun v47 =>
  gd v45 false (fun k => pr (.fieldAddr 2) [v2] k) fun v48 =>
  gd v45 false (fun k => pr (.load1) [v48] k) fun v49 =>
  gd v45 false (fun k => pr (.iop .neq) [v47, v49] k) fun v50 =>
  pr (.pick) [v45, (.bool true), v50] fun v51 =>
  g_cosignerref08_SameUnits_P5 w0 E R v1 v2 v51
def g_cosignerref08_SameUnits_F (w0 : World) (E R : Value → W) (x0 x1 : Value) : W :=
  pr (.box 25) [x0] fun v1 =>
  pr (.box 25) [x1] fun v2 =>
  pr (.fieldAddr 0) [v1] fun v35 =>
  pr (.load1) [v35] fun v36 =>
  pr (.fieldAddr 0) [v2] fun v37 =>
  pr (.load1) [v37] fun v38 =>
  pr (.sop .neq) [v36, v38] fun v39 =>
  gd v39 false (fun k => pr (.fieldAddr 1) [v1] k) fun v40 =>
  gd v39 false (fun k => pr (.load1) [v40] k) fun v41 =>
  gd v39 false (fun k => pr (.fieldAddr 1) [v2] k) fun v42 =>
  gd v39 false (fun k => pr (.load1) [v42] k) fun v43 =>
  gd v39 false (fun k => pr (.sop .neq) [v41, v43] k) fun v44 =>
  pr (.pick) [v39, (.bool true), v44] fun v45 =>
  g_cosignerref08_SameUnits_P6 w0 E R v1 v2 v45
theorem g_cosignerref08_SameUnits_wp {w0 : World} {h : AH} {Q : CR → AH → Prop} (x0 x1 : Value) (H : g_cosignerref08_SameUnits_F w0 (fun v h => Q (.pan v) h) (fun v h => Q (.ret v) h) x0 x1 h) : WF PP w0 id_cosignerref08_SameUnits [x0, x1] h Q :=
  WF_F hmix e22 [[s5], [s6]] (by kernel_rfl) (Eq.mp (by kernel_rfl) H)
def g_cosignerlaw08_few_P1 (w0 : World) (E R : Value → W) (v1 v16 : Value) : W :=
  gd v16 true (fun k => pr (.fieldAddr 6) [v1] k) fun v17 =>
  gd v16 true (fun k => pr (.load1) [v17] k) fun v18 =>
  gd v16 true (fun k => pr (.lenSl) [v18] k) fun v19 =>
  gd v16 true (fun k => pr (.iop .leq) [v19, (vi 8)] k) fun v20 =>
  gd v16 true (fun k => k v20) fun v21 =>
  gd v21 false (fun k => pr (.fieldAddr 6) [v1] k) fun v22 =>
  gd v21 false (fun k => pr (.load1) [v22] k) fun v23 =>
  gd v21 false (fun k => pr (.lenSl) [v23] k) fun v24 =>
  gd v21 false (fun k => pr (.iop .gtr) [v24, (vi 40)] k) fun v25 =>
  gd v21 false (fun k => k v25) fun v26 =>
  gd v26 true (fun k => pr (.fieldAddr 6) [v1] k) fun v27 =>
  gd v26 true (fun k => pr (.load1) [v27] k) fun v28 =>
  gd v26 true (fun k => pr (.lenSl) [v28] k) fun v29 =>
  gd v26 true (fun k => pr (.iop .leq) [v29, (vi 60)] k) fun v30 =>
  gd v21 false (fun k => pr (.pick) [v26, v30, (.bool false)] k) fun v31 =>
  gd v16 true (fun k => pr (.pick) [v21, (.bool true), v31] k) fun v32 =>
  pr (.pick) [v16, v32, (.bool false)] fun v33 =>
  R v33
def g_cosignerlaw08_few_F (w0 : World) (E R : Value → W) (x0 : Value) : W :=
  pr (.box 25) [x0] fun v1 =>
  pr (.fieldAddr 5) [v1] fun v2 =>
  pr (.load1) [v2] fun v3 =>
  pr (.lenSl) [v3] fun v4 =>
  pr (.iop .leq) [v4, (vi 40)] fun v5 =>
  gd v5 false (fun k => pr (.fieldAddr 5) [v1] k) fun v6 =>
  gd v5 false (fun k => pr (.load1) [v6] k) fun v7 =>
  gd v5 false (fun k => pr (.lenSl) [v7] k) fun v8 =>
  gd v5 false (fun k => pr (.iop .gtr) [v8, (vi 600)] k) fun v9 =>
  gd v5 false (fun k => k v9) fun v10 =>
  gd v10 true (fun k => pr (.fieldAddr 5) [v1] k) fun v11 =>
  gd v10 true (fun k => pr (.load1) [v11] k) fun v12 =>
  gd v10 true (fun k => pr (.lenSl) [v12] k) fun v13 =>
  gd v10 true (fun k => pr (.iop .leq) [v13, (vi 700)] k) fun v14 =>
  gd v5 false (fun k => pr (.pick) [v10, v14, (.bool false)] k) fun v15 =>
  pr (.pick) [v5, (.bool true), v15] fun v16 =>
  g_cosignerlaw08_few_P1 w0 E R v1 v16
theorem g_cosignerlaw08_few_wp {w0 : World} {h : AH} {Q : CR → AH → Prop} (x0 : Value) (H : g_cosignerlaw08_few_F w0 (fun v h => Q (.pan v) h) (fun v h => Q (.ret v) h) x0 h) : WF PP w0 id_cosignerlaw08_few [x0] h Q :=
  WF_F hmix e13 [] (by kernel_rfl) (Eq.mp (by kernel_rfl) H)
def g_cosignerref08_in_F (w0 : World) (E R : Value → W) (x0 x1 x2 : Value) : W :=
  pr (.iop .leq) [x1, x0] fun v1 =>
  gd v1 true (fun k => k x0) fun v2 =>
  gd v1 true (fun k => k x2) fun v3 =>
  gd v1 true (fun k => pr (.iop .leq) [v2, v3] k) fun v4 =>
  pr (.pick) [v1, v4, (.bool false)] fun v5 =>
  R v5
theorem g_cosignerref08_in_wp {w0 : World} {h : AH} {Q : CR → AH → Prop} (x0 x1 x2 : Value) (H : g_cosignerref08_in_F w0 (fun v h => Q (.pan v) h) (fun v h => Q (.ret v) h) x0 x1 x2 h) : WF PP w0 id_cosignerref08_in [x0, x1, x2] h Q :=
  WF_F hmix e58 [] (by kernel_rfl) (Eq.mp (by kernel_rfl) H)
def g_cosignerref08_RowOf_J1 (w0 : World) (E R : Value → W) (v1 : Value) : W :=
  pr (.build [(vi 0), (vi 0), (vi 0), (vi 0), (vi 0), (vi 0), (.bool false)] []) [] fun v2 =>
  pr (.store 7) [v1, v2] fun v3 =>
  ld (.loadN 7) [v1] fun v4 =>
  R (.tuple ⟨[v4, (.bool false)]⟩)
def g_cosignerref08_RowOf_J5 (w0 : World) (E R : Value → W) (v1 x0 y32 : Value) : W :=
  br y32 (
  pr (.buildAll [1, 1, 1]) [(vi 1), (vi 1), (vi 1)] fun v33 =>
  pr (.buildAll [1, 1]) [(vi 2), (vi 3)] fun v34 =>
  pr (.build [(vi 0), (vi 0), (vi 0), (vi 0), (vi 0), (vi 0), (.bool false)] [(0,3), (3,1), (4,2)]) [v33, (vi 1), v34] fun v35 =>
  pr (.store 7) [v1, v35] fun v36 =>
  ld (.loadN 7) [v1] fun v37 =>
  R (.tuple ⟨[v37, (.bool true)]⟩)) (
  pr (.iop .eql) [x0, (vi 17)] fun v38 =>
  br v38 (
  pr (.buildAll [1, 1, 1]) [(vi 1), (vi 2), (vi 5)] fun v39 =>
  pr (.buildAll [1, 1]) [(vi 2), (vi 0)] fun v40 =>
  pr (.buildAll [3, 1, 2, 1]) [v39, (vi 1), v40, (.bool true)] fun v41 =>
  pr (.store 7) [v1, v41] fun v42 =>
  ld (.loadN 7) [v1] fun v43 =>
  R (.tuple ⟨[v43, (.bool true)]⟩)) (
  pr (.iop .eql) [x0, (vi 18)] fun v44 =>
  br v44 (
  pr (.buildAll [1, 1, 1]) [(vi 5), (vi 1), (vi 0)] fun v45 =>
  pr (.buildAll [1, 1]) [(vi 2), (vi 0)] fun v46 =>
  pr (.build [(vi 0), (vi 0), (vi 0), (vi 0), (vi 0), (vi 0), (.bool false)] [(0,3), (4,2)]) [v45, v46] fun v47 =>
  pr (.store 7) [v1, v47] fun v48 =>
  ld (.loadN 7) [v1] fun v49 =>
  R (.tuple ⟨[v49, (.bool true)]⟩)) (
  pr (.iop .eql) [x0, (vi 19)] fun v50 =>
  br v50 (
  pr (.buildAll [1, 1, 1]) [(vi 6), (vi 1), (vi 0)] fun v51 =>
  pr (.buildAll [1, 1]) [(vi 2), (vi 0)] fun v52 =>
  pr (.build [(vi 0), (vi 0), (vi 0), (vi 0), (vi 0), (vi 0), (.bool false)] [(0,3), (4,2)]) [v51, v52] fun v53 =>
  pr (.store 7) [v1, v53] fun v54 =>
  ld (.loadN 7) [v1] fun v55 =>
  R (.tuple ⟨[v55, (.bool true)]⟩)) (
  pr (.iop .eql) [x0, (vi 20)] fun v56 =>
  br v56 (
  pr (.buildAll [1, 1, 1]) [(vi 7), (vi 2), (vi 8)] fun v57 =>
  pr (.buildAll [1, 1]) [(vi 2), (vi 0)] fun v58 =>
  pr (.buildAll [3, 1, 2, 1]) [v57, (vi 1), v58, (.bool true)] fun v59 =>
  pr (.store 7) [v1, v59] fun v60 =>
  ld (.loadN 7) [v1] fun v61 =>
  R (.tuple ⟨[v61, (.bool true)]⟩)) (
  pr (.iop .eql) [x0, (vi 21)] fun v62 =>
  br v62 (
  pr (.buildAll [1, 1, 1]) [(vi 1), (vi 9), (vi 4)] fun v63 =>
  pr (.build [(vi 0), (vi 0), (vi 0), (vi 0), (vi 0), (vi 0), (.bool false)] [(0,3), (3,1), (6,1)]) [v63, (vi 1), (.bool true)] fun v64 =>
  pr (.store 7) [v1, v64] fun v65 =>
  ld (.loadN 7) [v1] fun v66 =>
  R (.tuple ⟨[v66, (.bool true)]⟩)) (
  pr (.iop .eql) [x0, (vi 22)] fun v67 =>
  br v67 (
  pr (.buildAll [1, 1, 1]) [(vi 1), (vi 10), (vi 0)] fun v68 =>
  pr (.buildAll [1, 1]) [(vi 1), (vi 0)] fun v69 =>
  pr (.build [(vi 0), (vi 0), (vi 0), (vi 0), (vi 0), (vi 0), (.bool false)] [(0,3), (4,2), (6,1)]) [v68, v69, (.bool true)] fun v70 =>
  pr (.store 7) [v1, v70] fun v71 =>
  ld (.loadN 7) [v1] fun v72 =>
  R (.tuple ⟨[v72, (.bool true)]⟩)) (
  pr (.iop .eql) [x0, (vi 23)] fun v73 =>
  br v73 (
  pr (.buildAll [1, 1, 1]) [(vi 2), (vi 0), (vi 0)] fun v74 =>
  pr (.buildAll [1, 1]) [(vi 1), (vi 0)] fun v75 =>
  pr (.build [(vi 0), (vi 0), (vi 0), (vi 0), (vi 0), (vi 0), (.bool false)] [(0,3), (4,2), (6,1)]) [v74, v75, (.bool true)] fun v76 =>
  pr (.store 7) [v1, v76] fun v77 =>
  ld (.loadN 7) [v1] fun v78 =>
  R (.tuple ⟨[v78, (.bool true)]⟩)) (
  pr (.iop .eql) [x0, (vi 24)] fun v79 =>
  br v79 (
  pr (.buildAll [1, 1, 1]) [(vi 11), (vi 0), (vi 0)] fun v80 =>
  pr (.build [(vi 0), (vi 0), (vi 0), (vi 0), (vi 0), (vi 0), (.bool false)] [(0,3)]) [v80] fun v81 =>
  pr (.store 7) [v1, v81] fun v82 =>
  ld (.loadN 7) [v1] fun v83 =>
  R (.tuple ⟨[v83, (.bool true)]⟩)) (
  pr (.iop .eql) [x0, (vi 25)] fun v84 =>
  br v84 (
  pr (.buildAll [1, 1, 1]) [(vi 1), (vi 11), (vi 0)] fun v85 =>
  pr (.buildAll [1, 1]) [(vi 1), (vi 0)] fun v86 =>
  pr (.build [(vi 0), (vi 0), (vi 0), (vi 0), (vi 0), (vi 0), (.bool false)] [(0,3), (4,2)]) [v85, v86] fun v87 =>
  pr (.store 7) [v1, v87] fun v88 =>
  ld (.loadN 7) [v1] fun v89 =>
  R (.tuple ⟨[v89, (.bool true)]⟩)) (
  pr (.iop .eql) [x0, (vi 26)] fun v90 =>
  br v90 (
  pr (.buildAll [1, 1, 1]) [(vi 12), (vi 0), (vi 0)] fun v91 =>
  pr (.build [(vi 0), (vi 0), (vi 0), (vi 0), (vi 0), (vi 0), (.bool false)] [(0,3), (6,1)]) [v91, (.bool true)] fun v92 =>
  pr (.store 7) [v1, v92] fun v93 =>
  ld (.loadN 7) [v1] fun v94 =>
  R (.tuple ⟨[v94, (.bool true)]⟩)) (
  pr (.iop .eql) [x0, (vi 27)] fun v95 =>
  br v95 (
  pr (.build [(vi 0), (vi 0), (vi 0), (vi 0), (vi 0), (vi 0), (.bool false)] [(6,1)]) [(.bool true)] fun v96 =>
  pr (.store 7) [v1, v96] fun v97 =>
  ld (.loadN 7) [v1] fun v98 =>
  R (.tuple ⟨[v98, (.bool true)]⟩)) (
  pr (.iop .eql) [x0, (vi 28)] fun v99 =>
  br v99 (
  pr (.buildAll [1, 1, 1]) [(vi 2), (vi 0), (vi 0)] fun v100 =>
  pr (.buildAll [1, 1]) [(vi 1), (vi 0)] fun v101 =>
  pr (.build [(vi 0), (vi 0), (vi 0), (vi 0), (vi 0), (vi 0), (.bool false)] [(0,3), (4,2)]) [v100, v101] fun v102 =>
  pr (.store 7) [v1, v102] fun v103 =>
  ld (.loadN 7) [v1] fun v104 =>
  R (.tuple ⟨[v104, (.bool true)]⟩)) (
  pr (.iop .eql) [x0, (vi 29)] fun v105 =>
  br v105 (
  pr (.buildAll [1, 1, 1]) [(vi 1), (vi 0), (vi 0)] fun v106 =>
  pr (.buildAll [1, 1]) [(vi 1), (vi 0)] fun v107 =>
  pr (.build [(vi 0), (vi 0), (vi 0), (vi 0), (vi 0), (vi 0), (.bool false)] [(0,3), (4,2)]) [v106, v107] fun v108 =>
  pr (.store 7) [v1, v108] fun v109 =>
  ld (.loadN 7) [v1] fun v110 =>
  R (.tuple ⟨[v110, (.bool true)]⟩)) (
  pr (.iop .eql) [x0, (vi 30)] fun v111 =>
  br v111 (
  pr (.buildAll [1, 1, 1]) [(vi 1), (vi 0), (vi 0)] fun v112 =>
  pr (.buildAll [1, 1]) [(vi 1), (vi 0)] fun v113 =>
  pr (.build [(vi 0), (vi 0), (vi 0), (vi 0), (vi 0), (vi 0), (.bool false)] [(0,3), (4,2), (6,1)]) [v112, v113, (.bool true)] fun v114 =>
  pr (.store 7) [v1, v114] fun v115 =>
  ld (.loadN 7) [v1] fun v116 =>
  R (.tuple ⟨[v116, (.bool true)]⟩)) (
  pr (.iop .eql) [x0, (vi 31)] fun v117 =>
  br v117 (
  pr (.build [(vi 0), (vi 0), (vi 0), (vi 0), (vi 0), (vi 0), (.bool false)] []) [] fun v118 =>
  pr (.store 7) [v1, v118] fun v119 =>
  ld (.loadN 7) [v1] fun v120 =>
  R (.tuple ⟨[v120, (.bool true)]⟩)) (
  pr (.iop .eql) [x0, (vi 32)] fun v121 =>
  br v121 (
  pr (.buildAll [1, 1, 1]) [(vi 1), (vi 11), (vi 0)] fun v122 =>
  pr (.buildAll [1, 1]) [(vi 1), (vi 0)] fun v123 =>
  pr (.build [(vi 0), (vi 0), (vi 0), (vi 0), (vi 0), (vi 0), (.bool false)] [(0,3), (4,2), (6,1)]) [v122, v123, (.bool true)] fun v124 =>
  pr (.store 7) [v1, v124] fun v125 =>
  ld (.loadN 7) [v1] fun v126 =>
  R (.tuple ⟨[v126, (.bool true)]⟩)) (
  pr (.iop .eql) [x0, (vi 33)] fun v127 =>
  br v127 (
  pr (.buildAll [1, 1, 1]) [(vi 1), (vi 13), (vi 0)] fun v128 =>
  pr (.build [(vi 0), (vi 0), (vi 0), (vi 0), (vi 0), (vi 0), (.bool false)] [(0,3), (3,1)]) [v128, (vi 1)] fun v129 =>
  pr (.store 7) [v1, v129] fun v130 =>
  ld (.loadN 7) [v1] fun v131 =>
  R (.tuple ⟨[v131, (.bool true)]⟩)) (
  pr (.iop .eql) [x0, (vi 34)] fun v132 =>
  br v132 (
  pr (.buildAll [1, 1, 1]) [(vi 13), (vi 1), (vi 0)] fun v133 =>
  pr (.buildAll [1, 1]) [(vi 2), (vi 0)] fun v134 =>
  pr (.build [(vi 0), (vi 0), (vi 0), (vi 0), (vi 0), (vi 0), (.bool false)] [(0,3), (4,2)]) [v133, v134] fun v135 =>
  pr (.store 7) [v1, v135] fun v136 =>
  ld (.loadN 7) [v1] fun v137 =>
  R (.tuple ⟨[v137, (.bool true)]⟩)) (
  g_cosignerref08_RowOf_J1 w0 E R v1)))))))))))))))))))
def g_cosignerref08_RowOf_J4 (w0 : World) (E R : Value → W) (v1 x0 y26 : Value) : W :=
  br y26 (
  pr (.buildAll [1, 1, 1]) [(vi 1), (vi 1), (vi 1)] fun v27 =>
  pr (.buildAll [1, 1]) [(vi 2), (vi 3)] fun v28 =>
  pr (.buildAll [3, 1, 2, 1]) [v27, (vi 1), v28, (.bool true)] fun v29 =>
  pr (.store 7) [v1, v29] fun v30 =>
  ld (.loadN 7) [v1] fun v31 =>
  R (.tuple ⟨[v31, (.bool true)]⟩)) (
  pr (.iop .eql) [x0, (vi 12)] fun v138 =>
  br v138 (
  g_cosignerref08_RowOf_J5 w0 E R v1 x0 v138) (
  pr (.iop .eql) [x0, (vi 13)] fun v139 =>
  br v139 (
  g_cosignerref08_RowOf_J5 w0 E R v1 x0 v139) (
  pr (.iop .eql) [x0, (vi 14)] fun v140 =>
  g_cosignerref08_RowOf_J5 w0 E R v1 x0 v140)))
def g_cosignerref08_RowOf_J3 (w0 : World) (E R : Value → W) (v1 x0 y20 : Value) : W :=
  br y20 (
  pr (.buildAll [1, 1, 1]) [(vi 1), (vi 1), (vi 0)] fun v21 =>
  pr (.buildAll [1, 1]) [(vi 2), (vi 0)] fun v22 =>
  pr (.build [(vi 0), (vi 0), (vi 0), (vi 0), (vi 0), (vi 0), (.bool false)] [(0,3), (3,1), (4,2)]) [v21, (vi 1), v22] fun v23 =>
  pr (.store 7) [v1, v23] fun v24 =>
  ld (.loadN 7) [v1] fun v25 =>
  R (.tuple ⟨[v25, (.bool true)]⟩)) (
  pr (.iop .eql) [x0, (vi 6)] fun v141 =>
  br v141 (
  g_cosignerref08_RowOf_J4 w0 E R v1 x0 v141) (
  pr (.iop .eql) [x0, (vi 7)] fun v142 =>
  br v142 (
  g_cosignerref08_RowOf_J4 w0 E R v1 x0 v142) (
  pr (.iop .eql) [x0, (vi 8)] fun v143 =>
  br v143 (
  g_cosignerref08_RowOf_J4 w0 E R v1 x0 v143) (
  pr (.iop .eql) [x0, (vi 9)] fun v144 =>
  br v144 (
  g_cosignerref08_RowOf_J4 w0 E R v1 x0 v144) (
  pr (.iop .eql) [x0, (vi 10)] fun v145 =>
  g_cosignerref08_RowOf_J4 w0 E R v1 x0 v145)))))
def g_cosignerref08_RowOf_J2 (w0 : World) (E R : Value → W) (v1 x0 y15 : Value) : W :=
  br y15 (
  pr (.buildAll [1, 1, 1]) [(vi 1), (vi 0), (vi 0)] fun v16 =>
  pr (.build [(vi 0), (vi 0), (vi 0), (vi 0), (vi 0), (vi 0), (.bool false)] [(0,3), (3,1)]) [v16, (vi 1)] fun v17 =>
  pr (.store 7) [v1, v17] fun v18 =>
  ld (.loadN 7) [v1] fun v19 =>
  R (.tuple ⟨[v19, (.bool true)]⟩)) (
  pr (.iop .eql) [x0, (vi 4)] fun v146 =>
  br v146 (
  g_cosignerref08_RowOf_J3 w0 E R v1 x0 v146) (
  pr (.iop .eql) [x0, (vi 11)] fun v147 =>
  br v147 (
  g_cosignerref08_RowOf_J3 w0 E R v1 x0 v147) (
  pr (.iop .eql) [x0, (vi 15)] fun v148 =>
  br v148 (
  g_cosignerref08_RowOf_J3 w0 E R v1 x0 v148) (
  pr (.iop .eql) [x0, (vi 16)] fun v149 =>
  g_cosignerref08_RowOf_J3 w0 E R v1 x0 v149))))
def g_cosignerref08_RowOf_F (w0 : World) (E R : Value → W) (x0 : Value) : W :=
  pr (.alloc 148 [(vi 0), (vi 0), (vi 0), (vi 0), (vi 0), (vi 0), (.bool false)]) [] fun v1 =>
  pr (.iop .eql) [x0, (vi 1)] fun v5 =>
  br v5 (
  pr (.buildAll [1, 1, 1]) [(vi 1), (vi 3), (vi 0)] fun v6 =>
  pr (.build [(vi 0), (vi 0), (vi 0), (vi 0), (vi 0), (vi 0), (.bool false)] [(0,3), (3,1)]) [v6, (vi 1)] fun v7 =>
  pr (.store 7) [v1, v7] fun v8 =>
  ld (.loadN 7) [v1] fun v9 =>
  R (.tuple ⟨[v9, (.bool true)]⟩)) (
  pr (.iop .eql) [x0, (vi 2)] fun v10 =>
  br v10 (
  pr (.buildAll [1, 1, 1]) [(vi 1), (vi 4), (vi 0)] fun v11 =>
  pr (.build [(vi 0), (vi 0), (vi 0), (vi 0), (vi 0), (vi 0), (.bool false)] [(0,3), (3,1)]) [v11, (vi 1)] fun v12 =>
  pr (.store 7) [v1, v12] fun v13 =>
  ld (.loadN 7) [v1] fun v14 =>
  R (.tuple ⟨[v14, (.bool true)]⟩)) (
  pr (.iop .eql) [x0, (vi 3)] fun v150 =>
  br v150 (
  g_cosignerref08_RowOf_J2 w0 E R v1 x0 v150) (
  pr (.iop .eql) [x0, (vi 5)] fun v151 =>
  g_cosignerref08_RowOf_J2 w0 E R v1 x0 v151)))
theorem g_cosignerref08_RowOf_wp {w0 : World} {h : AH} {Q : CR → AH → Prop} (x0 : Value) (H : g_cosignerref08_RowOf_F w0 (fun v h => Q (.pan v) h) (fun v h => Q (.ret v) h) x0 h) : WF PP w0 id_cosignerref08_RowOf [x0] h Q :=
  WF_F hmix e88 [] (by kernel_rfl) (Eq.mp (by kernel_rfl) H)
def g_cosignerref08_jump_J2 (w0 : World) (E R : Value → W)  : W :=
  R (.tuple ⟨[(vi 0), (.bool false)]⟩)
def g_cosignerref08_jump_P1 (w0 : World) (E R : Value → W) (v1 v8 : Value) : W :=
  br v8 (
  pr (.fieldAddr 2) [v1] fun v9 =>
  pr (.load1) [v9] fun v10 =>
  R (.tuple ⟨[v10, (.bool true)]⟩)) (
  g_cosignerref08_jump_J2 w0 E R )
def g_cosignerref08_jump_J1 (w0 : World) (E R : Value → W) (v1 : Value) : W :=
  pr (.fieldAddr 0) [v1] fun v2 =>
  pr (.load1) [v2] fun v3 =>
  pr (.iop .eql) [v3, (vi 25)] fun v4 =>
  gd v4 false (fun k => pr (.fieldAddr 0) [v1] k) fun v5 =>
  gd v4 false (fun k => pr (.load1) [v5] k) fun v6 =>
  gd v4 false (fun k => pr (.iop .eql) [v6, (vi 32)] k) fun v7 =>
  pr (.pick) [v4, (.bool true), v7] fun v8 =>
  g_cosignerref08_jump_P1 w0 E R v1 v8
def g_cosignerref08_jump_F (w0 : World) (E R : Value → W) (x0 : Value) : W :=
  pr (.box 67) [x0] fun v1 =>
  pr (.fieldAddr 0) [v1] fun v11 =>
  pr (.load1) [v11] fun v12 =>
  pr (.iop .eql) [v12, (vi 24)] fun v13 =>
  br v13 (
  pr (.fieldAddr 1) [v1] fun v14 =>
  pr (.load1) [v14] fun v15 =>
  R (.tuple ⟨[v15, (.bool true)]⟩)) (
  g_cosignerref08_jump_J1 w0 E R v1)
theorem g_cosignerref08_jump_wp {w0 : World} {h : AH} {Q : CR → AH → Prop} (x0 : Value) (H : g_cosignerref08_jump_F w0 (fun v h => Q (.pan v) h) (fun v h => Q (.ret v) h) x0 h) : WF PP w0 id_cosignerref08_jump [x0] h Q :=
  WF_F hmix e57 [] (by kernel_rfl) (Eq.mp (by kernel_rfl) H)
def g_cosignerref08_Plain_J3 (w0 : World) (E R : Value → W)  : W :=
  R (.bool true)
def g_cosignerref08_Plain_J6 (w0 : World) (E R : Value → W) (y6 : Value) (k5 : Value → W) : W :=
  pr (.iop .add) [y6, (vi 1)] fun v7 =>
  k5 v7
def g_cosignerref08_Plain_P1 (w0 : World) (E R : Value → W) (y6 : Value) (k5 : Value → W) (v34 : Value) : W :=
  br v34 (
  R (.bool false)) (
  g_cosignerref08_Plain_J6 w0 E R y6 k5)
def g_cosignerref08_Plain_P2 (w0 : World) (E R : Value → W) (v12 v4 y6 : Value) (k5 : Value → W) (v27 : Value) : W :=
  gd v27 false (fun k => pr (.fieldAddr 2) [v12] k) fun v28 =>
  gd v27 false (fun k => pr (.load1) [v28] k) fun v29 =>
  gd v27 false (fun k => k v4) fun v30 =>
  gd v27 false (fun k => pr (.iop .sub) [v30, (vi 1)] k) fun v31 =>
  gd v27 false (fun k => cl PP w0 id_cosignerref08_in [v29, (vi 0), v31] E k) fun v32 =>
  gd v27 false (fun k => pr (.notB) [v32] k) fun v33 =>
  pr (.pick) [v27, (.bool true), v33] fun v34 =>
  g_cosignerref08_Plain_P1 w0 E R y6 k5 v34
def g_cosignerref08_Plain_P3 (w0 : World) (E R : Value → W) (v12 v4 y6 : Value) (k5 : Value → W) (v22 : Value) : W :=
  gd v22 false (fun k => pr (.fieldAddr 1) [v12] k) fun v23 =>
  gd v22 false (fun k => pr (.load1) [v23] k) fun v24 =>
  gd v22 false (fun k => k v4) fun v25 =>
  gd v22 false (fun k => pr (.iop .gtr) [v24, v25] k) fun v26 =>
  pr (.pick) [v22, (.bool true), v26] fun v27 =>
  g_cosignerref08_Plain_P2 w0 E R v12 v4 y6 k5 v27
def g_cosignerref08_Plain_J5 (w0 : World) (E R : Value → W) (v1 y6 v4 : Value) (k5 : Value → W) : W :=
  pr (.fieldAddr 6) [v1] fun v8 =>
  pr (.load1) [v8] fun v9 =>
  pr (.idxSlice 3) [v9, y6] fun v10 =>
  pr (.loadN 3) [v10] fun v11 =>
  pr (.alloc 79 [(vi 0), (vi 0), (vi 0)]) [] fun v12 =>
  pr (.store 3) [v12, v11] fun v13 =>
  pr (.fieldAddr 0) [v12] fun v14 =>
  pr (.load1) [v14] fun v15 =>
  pr (.iop .lss) [v15, (vi 0)] fun v16 =>
  gd v16 false (fun k => pr (.fieldAddr 0) [v12] k) fun v17 =>
  gd v16 false (fun k => pr (.load1) [v17] k) fun v18 =>
  gd v16 false (fun k => pr (.fieldAddr 1) [v12] k) fun v19 =>
  gd v16 false (fun k => pr (.load1) [v19] k) fun v20 =>
  gd v16 false (fun k => pr (.iop .geq) [v18, v20] k) fun v21 =>
  pr (.pick) [v16, (.bool true), v21] fun v22 =>
  g_cosignerref08_Plain_P3 w0 E R v12 v4 y6 k5 v22
def g_cosignerref08_Plain_L4 (w0 : World) (E R : Value → W) (v1 v4 : Value) (k5 : Value → W) (y6 : Value) : W :=
  pr (.fieldAddr 6) [v1] fun v35 =>
  pr (.load1) [v35] fun v36 =>
  pr (.lenSl) [v36] fun v37 =>
  pr (.iop .lss) [y6, v37] fun v38 =>
  br v38 (
  g_cosignerref08_Plain_J5 w0 E R v1 y6 v4 k5) (
  g_cosignerref08_Plain_J3 w0 E R )
def g_cosignerref08_Plain_J2 (w0 : World) (E R : Value → W) (v1 v4 : Value) : W :=
  LP (α := Value) (fun k a => g_cosignerref08_Plain_L4 w0 E R v1 v4 k a) ((vi 0))
def g_cosignerref08_Plain_J9 (w0 : World) (E R : Value → W) (y40 : Value) (k39 : Value → W) : W :=
  pr (.iop .add) [y40, (vi 1)] fun v41 =>
  k39 v41
def g_cosignerref08_Plain_P4 (w0 : World) (E R : Value → W) (y40 : Value) (k39 : Value → W) (v68 : Value) : W :=
  br v68 (
  R (.bool false)) (
  g_cosignerref08_Plain_J9 w0 E R y40 k39)
def g_cosignerref08_Plain_J8 (w0 : World) (E R : Value → W) (v1 y40 v4 : Value) (k39 : Value → W) : W :=
  pr (.fieldAddr 5) [v1] fun v42 =>
  pr (.load1) [v42] fun v43 =>
  pr (.idxSlice 4) [v43, y40] fun v44 =>
  pr (.fieldAddr 0) [v44] fun v45 =>
  pr (.load1) [v45] fun v46 =>
  cl PP w0 id_cosignerref08_RowOf [v46] E fun v47 =>
  pr (.extract 0) [v47] fun v48 =>
  pr (.extract 1) [v47] fun v49 =>
  pr (.alloc 148 [(vi 0), (vi 0), (vi 0), (vi 0), (vi 0), (vi 0), (.bool false)]) [] fun v50 =>
  pr (.store 7) [v50, v48] fun v51 =>
  pr (.fieldAddr 5) [v1] fun v52 =>
  pr (.load1) [v52] fun v53 =>
  pr (.idxSlice 4) [v53, y40] fun v54 =>
  pr (.loadN 4) [v54] fun v55 =>
  cl PP w0 id_cosignerref08_jump [v55] E fun v56 =>
  pr (.extract 0) [v56] fun v57 =>
  pr (.extract 1) [v56] fun v58 =>
  pr (.notB) [v49] fun v59 =>
  gd v59 false (fun k => k v58) fun v60 =>
  gd v59 false (fun k => k v60) fun v61 =>
  gd v61 true (fun k => k v57) fun v62 =>
  gd v61 true (fun k => k v4) fun v63 =>
  gd v61 true (fun k => pr (.iop .sub) [v63, (vi 1)] k) fun v64 =>
  gd v61 true (fun k => cl PP w0 id_cosignerref08_in [v62, (vi 0), v64] E k) fun v65 =>
  gd v61 true (fun k => pr (.notB) [v65] k) fun v66 =>
  gd v59 false (fun k => pr (.pick) [v61, v66, (.bool false)] k) fun v67 =>
  pr (.pick) [v59, (.bool true), v67] fun v68 =>
  g_cosignerref08_Plain_P4 w0 E R y40 k39 v68
def g_cosignerref08_Plain_L7 (w0 : World) (E R : Value → W) (v4 v1 : Value) (k39 : Value → W) (y40 : Value) : W :=
  pr (.iop .lss) [y40, v4] fun v69 =>
  br v69 (
  g_cosignerref08_Plain_J8 w0 E R v1 y40 v4 k39) (
  g_cosignerref08_Plain_J2 w0 E R v1 v4)
def g_cosignerref08_Plain_J1 (w0 : World) (E R : Value → W) (v4 v1 : Value) : W :=
  LP (α := Value) (fun k a => g_cosignerref08_Plain_L7 w0 E R v4 v1 k a) ((vi 0))
def g_cosignerref08_Plain_P5 (w0 : World) (E R : Value → W) (v4 v1 v86 : Value) : W :=
  br v86 (
  R (.bool false)) (
  g_cosignerref08_Plain_J1 w0 E R v4 v1)
def g_cosignerref08_Plain_P6 (w0 : World) (E R : Value → W) (v1 v4 v81 : Value) : W :=
  gd v81 false (fun k => pr (.fieldAddr 4) [v1] k) fun v82 =>
  gd v81 false (fun k => pr (.load1) [v82] k) fun v83 =>
  gd v81 false (fun k => cl PP w0 id_cosignerref08_in [v83, (vi 0), (vi 200)] E k) fun v84 =>
  gd v81 false (fun k => pr (.notB) [v84] k) fun v85 =>
  pr (.pick) [v81, (.bool true), v85] fun v86 =>
  g_cosignerref08_Plain_P5 w0 E R v4 v1 v86
def g_cosignerref08_Plain_P7 (w0 : World) (E R : Value → W) (v1 v4 v76 : Value) : W :=
  gd v76 false (fun k => pr (.fieldAddr 3) [v1] k) fun v77 =>
  gd v76 false (fun k => pr (.load1) [v77] k) fun v78 =>
  gd v76 false (fun k => cl PP w0 id_cosignerref08_in [v78, (vi 0), (vi 200)] E k) fun v79 =>
  gd v76 false (fun k => pr (.notB) [v79] k) fun v80 =>
  pr (.pick) [v76, (.bool true), v80] fun v81 =>
  g_cosignerref08_Plain_P6 w0 E R v1 v4 v81
def g_cosignerref08_Plain_F (w0 : World) (E R : Value → W) (x0 : Value) : W :=
  pr (.box 25) [x0] fun v1 =>
  pr (.fieldAddr 5) [v1] fun v2 =>
  pr (.load1) [v2] fun v3 =>
  pr (.lenSl) [v3] fun v4 =>
  cl PP w0 id_cosignerref08_in [v4, (vi 1), (vi 600)] E fun v70 =>
  pr (.notB) [v70] fun v71 =>
  gd v71 false (fun k => pr (.fieldAddr 6) [v1] k) fun v72 =>
  gd v71 false (fun k => pr (.load1) [v72] k) fun v73 =>
  gd v71 false (fun k => pr (.lenSl) [v73] k) fun v74 =>
  gd v71 false (fun k => pr (.iop .gtr) [v74, (vi 40)] k) fun v75 =>
  pr (.pick) [v71, (.bool true), v75] fun v76 =>
  g_cosignerref08_Plain_P7 w0 E R v1 v4 v76
theorem g_cosignerref08_Plain_wp {w0 : World} {h : AH} {Q : CR → AH → Prop} (x0 : Value) (H : g_cosignerref08_Plain_F w0 (fun v h => Q (.pan v) h) (fun v h => Q (.ret v) h) x0 h) : WF PP w0 id_cosignerref08_Plain [x0] h Q :=
  WF_F hmix e55 [[s4], [s9]] (by kernel_rfl) (Eq.mp (by kernel_rfl) H)
def g_cosignerref08_Cut_J5 (w0 : World) (E R : Value → W) (v12 v7 v5 v2 : Value) : W :=
  pr (.loadN 7) [v12] fun v18 =>
  pr (.slice 1 false true false) [v7, v5] fun v19 =>
  pr (.build [(bs []), (bs []), (vi 0), (vi 0), (vi 0), nilS, nilS, nilS, (vi 0)] [(0,7), (7,1)]) [v18, v19] fun v20 =>
  pr (.store 9) [v2, v20] fun v21 =>
  ld (.loadN 9) [v2] fun v22 =>
  R v22
def g_cosignerref08_Cut_J8 (w0 : World) (E R : Value → W) (y24 : Value) (k23 : Value → W) : W :=
  pr (.iop .add) [y24, (vi 1)] fun v25 =>
  k23 v25
def g_cosignerref08_Cut_J7 (w0 : World) (E R : Value → W) (v1 y24 v7 v12 : Value) (k23 : Value → W) : W :=
  pr (.fieldAddr 6) [v1] fun v26 =>
  pr (.load1) [v26] fun v27 =>
  pr (.idxSlice 3) [v27, y24] fun v28 =>
  pr (.loadN 3) [v28] fun v29 =>
  pr (.alloc 79 [(vi 0), (vi 0), (vi 0)]) [] fun v30 =>
  pr (.store 3) [v30, v29] fun v31 =>
  pr (.fieldAddr 0) [v30] fun v32 =>
  pr (.load1) [v32] fun v33 =>
  pr (.idxSlice 1) [v7, v33] fun v34 =>
  pr (.load1) [v34] fun v35 =>
  pr (.fieldAddr 1) [v30] fun v36 =>
  pr (.load1) [v36] fun v37 =>
  pr (.idxSlice 1) [v7, v37] fun v38 =>
  pr (.load1) [v38] fun v39 =>
  pr (.fieldAddr 2) [v30] fun v40 =>
  pr (.load1) [v40] fun v41 =>
  pr (.idxSlice 1) [v7, v41] fun v42 =>
  pr (.load1) [v42] fun v43 =>
  pr (.buildAll [1, 1, 1]) [v35, v39, v43] fun v44 =>
  pr (.alloc 79 [(vi 0), (vi 0), (vi 0)]) [] fun v45 =>
  pr (.store 3) [v45, v44] fun v46 =>
  pr (.fieldAddr 0) [v45] fun v47 =>
  pr (.load1) [v47] fun v48 =>
  pr (.fieldAddr 1) [v45] fun v49 =>
  pr (.load1) [v49] fun v50 =>
  pr (.iop .neq) [v48, v50] fun v51 =>
  br v51 (
  pr (.fieldAddr 6) [v12] fun v52 =>
  pr (.load1) [v52] fun v53 =>
  pr (.loadN 3) [v45] fun v54 =>
  pr (.buildSlice 79 1 [(vi 0), (vi 0), (vi 0)] [(0,3)]) [v54] fun v55 =>
  pr (.append 79 3 [(vi 0), (vi 0), (vi 0)]) [v53, v55] fun v56 =>
  pr (.fieldAddr 6) [v12] fun v57 =>
  pr (.store 1) [v57, v56] fun v58 =>
  g_cosignerref08_Cut_J8 w0 E R y24 k23) (
  g_cosignerref08_Cut_J8 w0 E R y24 k23)
def g_cosignerref08_Cut_L6 (w0 : World) (E R : Value → W) (v1 v7 v12 v5 v2 : Value) (k23 : Value → W) (y24 : Value) : W :=
  pr (.fieldAddr 6) [v1] fun v59 =>
  pr (.load1) [v59] fun v60 =>
  pr (.lenSl) [v60] fun v61 =>
  pr (.iop .lss) [y24, v61] fun v62 =>
  br v62 (
  g_cosignerref08_Cut_J7 w0 E R v1 y24 v7 v12 k23) (
  g_cosignerref08_Cut_J5 w0 E R v12 v7 v5 v2)
def g_cosignerref08_Cut_J4 (w0 : World) (E R : Value → W) (v1 v7 v12 v5 v2 : Value) : W :=
  LP (α := Value) (fun k a => g_cosignerref08_Cut_L6 w0 E R v1 v7 v12 v5 v2 k a) ((vi 0))
def g_cosignerref08_Cut_J11 (w0 : World) (E R : Value → W) (y64 : Value) (k63 : Value → W) : W :=
  pr (.iop .add) [y64, (vi 1)] fun v65 =>
  k63 v65
def g_cosignerref08_Cut_J14 (w0 : World) (E R : Value → W) (v12 v70 y64 : Value) (k63 : Value → W) : W :=
  pr (.fieldAddr 5) [v12] fun v72 =>
  pr (.load1) [v72] fun v73 =>
  pr (.loadN 4) [v70] fun v74 =>
  pr (.buildSlice 67 1 [(vi 0), (vi 0), (vi 0), (vi 0)] [(0,4)]) [v74] fun v75 =>
  pr (.append 67 4 [(vi 0), (vi 0), (vi 0), (vi 0)]) [v73, v75] fun v76 =>
  pr (.fieldAddr 5) [v12] fun v77 =>
  pr (.store 1) [v77, v76] fun v78 =>
  g_cosignerref08_Cut_J11 w0 E R y64 k63
def g_cosignerref08_Cut_P1 (w0 : World) (E R : Value → W) (v70 v7 v12 y64 : Value) (k63 : Value → W) (v85 : Value) : W :=
  br v85 (
  pr (.fieldAddr 2) [v70] fun v86 =>
  pr (.load1) [v86] fun v87 =>
  pr (.idxSlice 1) [v7, v87] fun v88 =>
  pr (.load1) [v88] fun v89 =>
  pr (.fieldAddr 2) [v70] fun v90 =>
  pr (.store 1) [v90, v89] fun v91 =>
  g_cosignerref08_Cut_J14 w0 E R v12 v70 y64 k63) (
  g_cosignerref08_Cut_J14 w0 E R v12 v70 y64 k63)
def g_cosignerref08_Cut_J13 (w0 : World) (E R : Value → W) (v70 v7 v12 y64 : Value) (k63 : Value → W) : W :=
  pr (.fieldAddr 0) [v70] fun v79 =>
  pr (.load1) [v79] fun v80 =>
  pr (.iop .eql) [v80, (vi 25)] fun v81 =>
  gd v81 false (fun k => pr (.fieldAddr 0) [v70] k) fun v82 =>
  gd v81 false (fun k => pr (.load1) [v82] k) fun v83 =>
  gd v81 false (fun k => pr (.iop .eql) [v83, (vi 32)] k) fun v84 =>
  pr (.pick) [v81, (.bool true), v84] fun v85 =>
  g_cosignerref08_Cut_P1 w0 E R v70 v7 v12 y64 k63 v85
def g_cosignerref08_Cut_J12 (w0 : World) (E R : Value → W) (v1 y64 v7 v12 : Value) (k63 : Value → W) : W :=
  pr (.fieldAddr 5) [v1] fun v66 =>
  pr (.load1) [v66] fun v67 =>
  pr (.idxSlice 4) [v67, y64] fun v68 =>
  pr (.loadN 4) [v68] fun v69 =>
  pr (.alloc 67 [(vi 0), (vi 0), (vi 0), (vi 0)]) [] fun v70 =>
  pr (.store 4) [v70, v69] fun v71 =>
  pr (.fieldAddr 0) [v70] fun v92 =>
  pr (.load1) [v92] fun v93 =>
  pr (.iop .eql) [v93, (vi 24)] fun v94 =>
  br v94 (
  pr (.fieldAddr 1) [v70] fun v95 =>
  pr (.load1) [v95] fun v96 =>
  pr (.idxSlice 1) [v7, v96] fun v97 =>
  pr (.load1) [v97] fun v98 =>
  pr (.fieldAddr 1) [v70] fun v99 =>
  pr (.store 1) [v99, v98] fun v100 =>
  g_cosignerref08_Cut_J13 w0 E R v70 v7 v12 y64 k63) (
  g_cosignerref08_Cut_J13 w0 E R v70 v7 v12 y64 k63)
def g_cosignerref08_Cut_J10 (w0 : World) (E R : Value → W) (x1 y64 : Value) (k63 : Value → W) (v1 v7 v12 : Value) : W :=
  pr (.idxSlice 1) [x1, y64] fun v101 =>
  pr (.load1) [v101] fun v102 =>
  pr (.notB) [v102] fun v103 =>
  br v103 (
  g_cosignerref08_Cut_J11 w0 E R y64 k63) (
  g_cosignerref08_Cut_J12 w0 E R v1 y64 v7 v12 k63)
def g_cosignerref08_Cut_L9 (w0 : World) (E R : Value → W) (v5 x1 v1 v7 v12 v2 : Value) (k63 : Value → W) (y64 : Value) : W :=
  pr (.iop .lss) [y64, v5] fun v104 =>
  br v104 (
  g_cosignerref08_Cut_J10 w0 E R x1 y64 k63 v1 v7 v12) (
  g_cosignerref08_Cut_J4 w0 E R v1 v7 v12 v5 v2)
def g_cosignerref08_Cut_J3 (w0 : World) (E R : Value → W) (v7 v5 v1 x1 v2 y8 : Value) : W :=
  pr (.idxSlice 1) [v7, v5] fun v9 =>
  pr (.store 1) [v9, y8] fun v10 =>
  pr (.loadN 7) [v1] fun v11 =>
  pr (.alloc 25 [(bs []), (bs []), (vi 0), (vi 0), (vi 0), nilS, nilS]) [] fun v12 =>
  pr (.store 7) [v12, v11] fun v13 =>
  pr (.fieldAddr 5) [v12] fun v14 =>
  pr (.store 1) [v14, nilS] fun v15 =>
  pr (.fieldAddr 6) [v12] fun v16 =>
  pr (.store 1) [v16, nilS] fun v17 =>
  LP (α := Value) (fun k a => g_cosignerref08_Cut_L9 w0 E R v5 x1 v1 v7 v12 v2 k a) ((vi 0))
def g_cosignerref08_Cut_J17 (w0 : World) (E R : Value → W) (y107 : Value) (k105 : Value → Value → W) (y108 : Value) : W :=
  pr (.iop .add) [y107, (vi 1)] fun v109 =>
  k105 y108 v109
def g_cosignerref08_Cut_J16 (w0 : World) (E R : Value → W) (v7 y107 y106 x1 : Value) (k105 : Value → Value → W) : W :=
  pr (.idxSlice 1) [v7, y107] fun v110 =>
  pr (.store 1) [v110, y106] fun v111 =>
  pr (.idxSlice 1) [x1, y107] fun v112 =>
  pr (.load1) [v112] fun v113 =>
  br v113 (
  pr (.iop .add) [y106, (vi 1)] fun v114 =>
  g_cosignerref08_Cut_J17 w0 E R y107 k105 v114) (
  g_cosignerref08_Cut_J17 w0 E R y107 k105 y106)
def g_cosignerref08_Cut_L15 (w0 : World) (E R : Value → W) (v5 v7 x1 v1 v2 : Value) (k105 : Value → Value → W) (y106 y107 : Value) : W :=
  pr (.iop .lss) [y107, v5] fun v115 =>
  br v115 (
  g_cosignerref08_Cut_J16 w0 E R v7 y107 y106 x1 k105) (
  g_cosignerref08_Cut_J3 w0 E R v7 v5 v1 x1 v2 y106)
def g_cosignerref08_Cut_J2 (w0 : World) (E R : Value → W) (v5 x1 v1 v2 : Value) : W :=
  pr (.iop .add) [v5, (vi 1)] fun v6 =>
  pr (.mkSlice 3 1 [(vi 0)]) [v6, v6] fun v7 =>
  LP (α := Value × Value) (fun k a => g_cosignerref08_Cut_L15 w0 E R v5 v7 x1 v1 v2 (fun b0 b1 => k (b0, b1)) a.1 a.2) ((vi 0), (vi 0))
def g_cosignerref08_Cut_J1 (w0 : World) (E R : Value → W) (v5 x1 v2 v1 : Value) : W :=
  pr (.iop .sub) [v5, (vi 1)] fun v116 =>
  pr (.idxSlice 1) [x1, v116] fun v117 =>
  pr (.load1) [v117] fun v118 =>
  pr (.notB) [v118] fun v119 =>
  br v119 (
  pr (.build [(bs []), (bs []), (vi 0), (vi 0), (vi 0), nilS, nilS, nilS, (vi 0)] [(8,1)]) [(vi 2)] fun v120 =>
  pr (.store 9) [v2, v120] fun v121 =>
  ld (.loadN 9) [v2] fun v122 =>
  R v122) (
  g_cosignerref08_Cut_J2 w0 E R v5 x1 v1 v2)
def g_cosignerref08_Cut_P2 (w0 : World) (E R : Value → W) (v2 v5 x1 v1 v130 : Value) : W :=
  br v130 (
  pr (.build [(bs []), (bs []), (vi 0), (vi 0), (vi 0), nilS, nilS, nilS, (vi 0)] [(8,1)]) [(vi 1)] fun v131 =>
  pr (.store 9) [v2, v131] fun v132 =>
  ld (.loadN 9) [v2] fun v133 =>
  R v133) (
  g_cosignerref08_Cut_J1 w0 E R v5 x1 v2 v1)
def g_cosignerref08_Cut_F (w0 : World) (E R : Value → W) (x0 x1 : Value) : W :=
  pr (.box 25) [x0] fun v1 =>
  pr (.alloc 43 [(bs []), (bs []), (vi 0), (vi 0), (vi 0), nilS, nilS, nilS, (vi 0)]) [] fun v2 =>
  pr (.fieldAddr 5) [v1] fun v3 =>
  pr (.load1) [v3] fun v4 =>
  pr (.lenSl) [v4] fun v5 =>
  pr (.loadN 7) [v1] fun v123 =>
  cl PP w0 id_cosignerref08_Plain [v123] E fun v124 =>
  pr (.notB) [v124] fun v125 =>
  gd v125 false (fun k => k x1) fun v126 =>
  gd v125 false (fun k => pr (.lenSl) [v126] k) fun v127 =>
  gd v125 false (fun k => k v5) fun v128 =>
  gd v125 false (fun k => pr (.iop .neq) [v127, v128] k) fun v129 =>
  pr (.pick) [v125, (.bool true), v129] fun v130 =>
  g_cosignerref08_Cut_P2 w0 E R v2 v5 x1 v1 v130
theorem g_cosignerref08_Cut_wp {w0 : World} {h : AH} {Q : CR → AH → Prop} (x0 x1 : Value) (H : g_cosignerref08_Cut_F w0 (fun v h => Q (.pan v) h) (fun v h => Q (.ret v) h) x0 x1 h) : WF PP w0 id_cosignerref08_Cut [x0, x1] h Q :=
  WF_F hmix e21 [[s7, s8], [s10], [s12]] (by kernel_rfl) (Eq.mp (by kernel_rfl) H)
def g_cosignerlaw08_CoreCuts_P1 (w0 : World) (E R : Value → W) (v7 v12 v24 : Value) : W :=
  gd v24 true (fun k => k v7) fun v25 =>
  gd v24 true (fun k => pr (.fieldAddr 8) [v12] k) fun v26 =>
  gd v24 true (fun k => pr (.load1) [v26] k) fun v27 =>
  gd v24 true (fun k => pr (.iop .eql) [v25, v27] k) fun v28 =>
  pr (.pick) [v24, v28, (.bool false)] fun v29 =>
  R v29
def g_cosignerlaw08_CoreCuts_P2 (w0 : World) (E R : Value → W) (v2 v7 v12 v22 : Value) : W :=
  gd v2 true (fun k => k v22) fun v23 =>
  pr (.pick) [v2, v23, (.bool false)] fun v24 =>
  g_cosignerlaw08_CoreCuts_P1 w0 E R v7 v12 v24
def g_cosignerlaw08_CoreCuts_J1 (w0 : World) (E R : Value → W) (v1 x1 v2 : Value) : W :=
  pr (.loadN 7) [v1] fun v3 =>
  cl PP w0 id_core_Cut [v3, x1] E fun v4 =>
  pr (.extract 0) [v4] fun v5 =>
  pr (.extract 1) [v4] fun v6 =>
  pr (.extract 2) [v4] fun v7 =>
  pr (.alloc 25 [(bs []), (bs []), (vi 0), (vi 0), (vi 0), nilS, nilS]) [] fun v8 =>
  pr (.store 7) [v8, v5] fun v9 =>
  pr (.loadN 7) [v1] fun v10 =>
  cl PP w0 id_cosignerref08_Cut [v10, x1] E fun v11 =>
  pr (.alloc 43 [(bs []), (bs []), (vi 0), (vi 0), (vi 0), nilS, nilS, nilS, (vi 0)]) [] fun v12 =>
  pr (.store 9) [v12, v11] fun v13 =>
  pr (.loadN 7) [v8] fun v14 =>
  pr (.fieldAddr 0) [v12] fun v15 =>
  pr (.loadN 7) [v15] fun v16 =>
  cl PP w0 id_cosignerref08_SameUnits [v14, v16] E fun v17 =>
  gd v17 true (fun k => k v6) fun v18 =>
  gd v17 true (fun k => pr (.fieldAddr 7) [v12] k) fun v19 =>
  gd v17 true (fun k => pr (.load1) [v19] k) fun v20 =>
  gd v17 true (fun k => cl PP w0 id_cosignerref08_SameInts [v18, v20] E k) fun v21 =>
  pr (.pick) [v17, v21, (.bool false)] fun v22 =>
  g_cosignerlaw08_CoreCuts_P2 w0 E R v2 v7 v12 v22
def g_cosignerlaw08_CoreCuts_P3 (w0 : World) (E R : Value → W) (v2 v1 x1 v36 : Value) : W :=
  br v36 (
  R v2) (
  g_cosignerlaw08_CoreCuts_J1 w0 E R v1 x1 v2)
def g_cosignerlaw08_CoreCuts_F (w0 : World) (E R : Value → W) (x0 x1 : Value) : W :=
  pr (.box 25) [x0] fun v1 =>
  cl PP w0 id_cosignerlaw08_head [] E fun v2 =>
  pr (.loadN 7) [v1] fun v30 =>
  cl PP w0 id_cosignerlaw08_few [v30] E fun v31 =>
  pr (.notB) [v31] fun v32 =>
  gd v32 false (fun k => k x1) fun v33 =>
  gd v32 false (fun k => pr (.lenSl) [v33] k) fun v34 =>
  gd v32 false (fun k => pr (.iop .gtr) [v34, (vi 700)] k) fun v35 =>
  pr (.pick) [v32, (.bool true), v35] fun v36 =>
  g_cosignerlaw08_CoreCuts_P3 w0 E R v2 v1 x1 v36
theorem g_cosignerlaw08_CoreCuts_wp {w0 : World} {h : AH} {Q : CR → AH → Prop} (x0 x1 : Value) (H : g_cosignerlaw08_CoreCuts_F w0 (fun v h => Q (.pan v) h) (fun v h => Q (.ret v) h) x0 x1 h) : WF PP w0 id_cosignerlaw08_CoreCuts [x0, x1] h Q :=
  WF_F hmix e4 [] (by kernel_rfl) (Eq.mp (by kernel_rfl) H)
end
end Go.Ve.T
namespace Go.Ve
open Go.RowKit
open Classical
noncomputable section
structure Sub (g h : AH) : Prop where
  nx : g.nx ≤ h.nx
  get : ∀ f x, g.ob.get f = some x → h.ob.get f = some x
theorem Sub.refl (g : AH) : Sub g g := ⟨Nat.le_refl _, fun _ _ h => h⟩
theorem Sub.trans {a b c : AH} (h1 : Sub a b) (h2 : Sub b c) : Sub a c := ⟨Nat.le_trans h1.nx h2.nx, fun f x h => h2.get f x (h1.get f x h)⟩
theorem Sub.rd {g h : AH} (S : Sub g h) {b o : Nat} {v : Value} (hr : g.rd b o = some v) : h.rd b o = some v := by
  unfold AH.rd at hr ⊢
  cases hg : g.ob.get b with
  | none => rw [hg] at hr; cases hr
  | some x => rw [S.get b x hg]; rw [hg] at hr; exact hr
theorem Sub.rds {g h : AH} (S : Sub g h) {b o : Nat} {l : List Value} (hr : g.rds b o l) : h.rds b o l := fun i v hv => S.rd (hr i v hv)
def All2 {α β : Type} (R : α → β → Prop) (l : List α) (m : List β) : Prop := l.length = m.length ∧ ∀ (i : Nat) x y, l[i]? = some x → m[i]? = some y → R x y
section
variable {α β : Type} {R R' : α → β → Prop} {l l2 : List α} {m m2 : List β}
theorem All2.nil : All2 R [] [] := ⟨rfl, fun i x y h => by simp at h⟩
theorem All2.mono (H : All2 R l m) (hm : ∀ x y, R x y → R' x y) : All2 R' l m := ⟨H.1, fun i x y h1 h2 => hm x y (H.2 i x y h1 h2)⟩
theorem All2.get (H : All2 R l m) {i : Nat} {y : β} (hy : m[i]? = some y) : ∃ x, l[i]? = some x ∧ R x y := by
  have hi : i < m.length := (List.getElem?_eq_some_iff.1 hy).1
  have hl : i < l.length := by rw [H.1]; exact hi
  exact ⟨l[i], List.getElem?_eq_getElem hl, H.2 i _ _ (List.getElem?_eq_getElem hl) hy⟩
theorem All2.append (H : All2 R l m) (H2 : All2 R l2 m2) : All2 R (l ++ l2) (m ++ m2) := by
  refine ⟨by simp [H.1, H2.1], fun i x y hx hy => ?_⟩
  by_cases hi : i < l.length
  · rw [List.getElem?_append_left hi] at hx
    rw [List.getElem?_append_left (by rw [← H.1]; exact hi)] at hy
    exact H.2 i x y hx hy
  · rw [List.getElem?_append_right (by omega)] at hx
    rw [List.getElem?_append_right (by rw [← H.1]; omega), ← H.1] at hy
    exact H2.2 _ x y hx hy
theorem All2.one {x : α} {y : β} (h : R x y) : All2 R [x] [y] := ⟨rfl, fun i a b ha hb => by
  cases i with
  | zero => simp at ha hb; subst ha; subst hb; exact h
  | succ i => simp at ha⟩
theorem All2.push {x : α} {y : β} (H : All2 R l m) (h : R x y) : All2 R (l ++ [x]) (m ++ [y]) := H.append (.one h)
theorem All2.set {x : α} {y : β} (H : All2 R l m) (h : R x y) (i : Nat) : All2 R (l.set i x) (m.set i y) := by
  refine ⟨by simp [H.1], fun j a b ha hb => ?_⟩
  rw [List.getElem?_set] at ha hb
  by_cases e : i = j
  · subst e
    rw [if_pos rfl] at ha hb
    split at ha
    · cases ha
      split at hb
      · cases hb; exact h
      · cases hb
    · cases ha
  · rw [if_neg e] at ha hb; exact H.2 j a b ha hb
theorem All2.take (H : All2 R l m) (n : Nat) : All2 R (l.take n) (m.take n) := ⟨by simp [H.1], fun i x y hx hy => by
  rw [List.getElem?_take] at hx hy
  split at hx
  · rename_i hi; rw [if_pos hi] at hy; exact H.2 i x y hx hy
  · cases hx⟩
theorem All2.drop (H : All2 R l m) (n : Nat) : All2 R (l.drop n) (m.drop n) := ⟨by simp [H.1], fun i x y hx hy => by
  rw [List.getElem?_drop] at hx hy; exact H.2 _ x y hx hy⟩
theorem All2.repl {x : α} {y : β} (h : R x y) : ∀ n, All2 R (List.replicate n x) (List.replicate n y)
  | 0 => .nil
  | n + 1 => ⟨by simp, fun i a b ha hb => by
    have h1 := List.mem_of_getElem? ha
    have h2 := List.mem_of_getElem? hb
    rw [(List.mem_replicate.1 h1).2, (List.mem_replicate.1 h2).2]; exact h⟩
end
def ix {α : Type} (l : List α) : Int → Option α
  | .ofNat n => l[n]?
  | .negSucc _ => none
theorem ix_nat {α : Type} (l : List α) (n : Nat) : ix l (n : Int) = l[n]? := rfl
theorem ix_some {α : Type} {l : List α} {n : Int} {x : α} (h : ix l n = some x) : ∃ i : Nat, n = i ∧ i < l.length ∧ l[i]? = some x := by
  cases n with
  | ofNat i => exact ⟨i, rfl, (List.getElem?_eq_some_iff.1 h).1, h⟩
  | negSucc i => cases h
theorem bind_some {α β : Type} {o : Option α} {f : α → Option β} {r : β} (h : o.bind f = some r) : ∃ x, o = some x ∧ f x = some r := by
  cases o with
  | none => cases h
  | some x => exact ⟨x, rfl, h⟩
theorem cond_T {α : Type} {c : Bool} {a b r : α} (hc : c = true) (h : (bif c then a else b) = r) : a = r := by subst hc; exact h
theorem cond_F {α : Type} {c : Bool} {a b r : α} (hc : c = false) (h : (bif c then a else b) = r) : b = r := by subst hc; exact h
def gu {α : Type} (c : Bool) (k : Option α) : Option α := bif c then k else none
theorem gu_some {α : Type} {c : Bool} {k : Option α} {r : α} (h : gu c k = some r) : c = true ∧ k = some r := by
  cases c with
  | false => cases h
  | true => exact ⟨rfl, h⟩
abbrev Rep (α : Type) := AH → List Value → α → Prop
def Mono {α : Type} (rep : Rep α) : Prop := ∀ g g' vs x, Sub g g' → rep g vs x → rep g' vs x
def capOk (sz n cap : Nat) : Prop := n < unk ∧ ((n ≤ cap ∧ cap < unk) ∨ cap = unk + sz)
inductive SlR (g : AH) (sz : Nat) : Value → List (List Value) → Prop where
  | nil : SlR g sz nilS []
  | mk (b o n cap : Nat) (ls : List (List Value)) (hn : n = ls.length) (hc : capOk sz n cap) (hs : ∀ x ∈ ls, x.length = sz) (hr : g.rds b o ls.flatten) : SlR g sz (mkS b o n cap) ls
theorem SlR.mono {g g' : AH} {sz : Nat} {v : Value} {ls : List (List Value)} (S : Sub g g') (H : SlR g sz v ls) : SlR g' sz v ls := by
  cases H with
  | nil => exact .nil
  | mk b o n cap ls hn hc hs hr => exact .mk b o n cap ls hn hc hs (S.rds hr)
def FzS {α : Type} (rep : Rep α) (sz : Nat) (g : AH) (v : Value) (l : List α) : Prop := ∃ ls, SlR g sz v ls ∧ All2 (rep g) ls l
theorem FzS.mono {α : Type} {rep : Rep α} {sz : Nat} {g g' : AH} {v : Value} {l : List α} (H : FzS rep sz g v l) (hm : Mono rep) (S : Sub g g') : FzS rep sz g' v l := by
  obtain ⟨ls, h1, h2⟩ := H
  exact ⟨ls, h1.mono S, h2.mono fun x y h => hm _ _ _ _ S h⟩
theorem FzS.nil {α : Type} {rep : Rep α} {sz : Nat} {g : AH} : FzS rep sz g nilS [] := ⟨[], .nil, .nil⟩
theorem SlR.one {g : AH} {sz : Nat} {v : Value} {ls : List (List Value)} (H : SlR g sz v ls) : oneCell v = true := by cases H <;> rfl
theorem FzS.one {α : Type} {rep : Rep α} {sz : Nat} {g : AH} {v : Value} {l : List α} (H : FzS rep sz g v l) : oneCell v = true := by obtain ⟨ls, h1, _⟩ := H; exact h1.one
def rI (k : IntKind) : Rep Int := fun _ vs x => vs = [.int k x]
def rB : Rep Bool := fun _ vs x => vs = [.bool x]
def rS : Rep ByteArray := fun _ vs x => vs = [.string x]
def rL {α : Type} (rep : Rep α) (sz : Nat) : Rep (List α) := fun g vs x => ∃ v, vs = [v] ∧ FzS rep sz g v x
theorem mono_I (k : IntKind) : Mono (rI k) := fun _ _ _ _ _ h => h
theorem mono_B : Mono rB := fun _ _ _ _ _ h => h
theorem flat_len {sz : Nat} : ∀ {l : List (List Value)}, (∀ x ∈ l, x.length = sz) → l.flatten.length = l.length * sz
  | [], _ => by simp
  | x :: l, hs => by
    rw [List.flatten_cons, List.length_append, hs x List.mem_cons_self, flat_len fun y hy => hs y (List.mem_cons_of_mem _ hy), List.length_cons, Nat.add_mul]; omega
theorem flat_drop {sz : Nat} : ∀ {l : List (List Value)} (n : Nat), (∀ x ∈ l, x.length = sz) → (l.drop n).flatten = l.flatten.drop (n * sz)
  | [], n, _ => by simp
  | x :: l, 0, _ => by simp
  | x :: l, n + 1, hs => by
    rw [List.drop_succ_cons, List.flatten_cons, flat_drop n fun y hy => hs y (List.mem_cons_of_mem _ hy), List.drop_append, List.drop_of_length_le (l := x) (by rw [hs x List.mem_cons_self, Nat.add_mul]; omega), List.nil_append, hs x List.mem_cons_self]
    congr 1
    rw [Nat.add_mul]; omega
theorem flat_take {sz : Nat} : ∀ {l : List (List Value)} (n : Nat), (∀ x ∈ l, x.length = sz) → (l.take n).flatten = l.flatten.take (n * sz)
  | [], n, _ => by simp
  | x :: l, 0, _ => by simp
  | x :: l, n + 1, hs => by
    rw [List.take_succ_cons, List.flatten_cons, List.flatten_cons, flat_take n fun y hy => hs y (List.mem_cons_of_mem _ hy), List.take_append, hs x List.mem_cons_self, List.take_of_length_le (show x.length ≤ (n + 1) * sz by rw [hs x List.mem_cons_self, Nat.add_mul]; omega)]
    congr 2
    rw [Nat.add_mul]; omega
theorem flat_set {sz : Nat} : ∀ {l : List (List Value)} {i : Nat} {y : List Value}, (∀ x ∈ l, x.length = sz) → y.length = sz → i < l.length → ∀ j, (l.set i y).flatten[j]? = if i * sz ≤ j ∧ j < i * sz + sz then y[j - i * sz]? else l.flatten[j]?
  | [], i, y, _, _, h, j => by simp at h
  | x :: l, 0, y, hs, hy, _, j => by
    have hx := hs x List.mem_cons_self
    rw [List.set_cons_zero, List.flatten_cons, List.flatten_cons, Nat.zero_mul, Nat.zero_add]
    by_cases hj : j < sz
    · rw [if_pos ⟨Nat.zero_le _, hj⟩, List.getElem?_append_left (by omega)]; rfl
    · rw [if_neg (fun h => hj h.2), List.getElem?_append_right (by omega), List.getElem?_append_right (by omega), hx, hy]
  | x :: l, i + 1, y, hs, hy, hi, j => by
    have hx := hs x List.mem_cons_self
    rw [List.set_cons_succ, List.flatten_cons, List.flatten_cons]
    have e : (i + 1) * sz = i * sz + sz := by rw [Nat.add_mul]; omega
    by_cases hj : j < sz
    · rw [List.getElem?_append_left (by omega), if_neg (by omega), List.getElem?_append_left (by omega)]
    · rw [List.getElem?_append_right (by omega), List.getElem?_append_right (by omega), flat_set (fun z hz => hs z (List.mem_cons_of_mem _ hz)) hy (by simpa using hi), hx, e]
      by_cases h2 : i * sz ≤ j - sz ∧ j - sz < i * sz + sz
      · rw [if_pos h2, if_pos (by omega)]; congr 1; omega
      · rw [if_neg h2, if_neg (by omega)]
theorem rds_take {h : AH} {b o : Nat} {l : List Value} (n : Nat) (H : h.rds b o l) : h.rds b o (l.take n) := fun i v hv => H i v (by
  rw [List.getElem?_take] at hv; split at hv
  · exact hv
  · cases hv)
theorem rds_drop {h : AH} {b o : Nat} {l : List Value} (n : Nat) (H : h.rds b o l) : h.rds b (o + n) (l.drop n) := fun i v hv => by
  rw [List.getElem?_drop] at hv
  have := H (n + i) v hv
  rwa [show o + n + i = o + (n + i) by omega]
inductive OwS (h : AH) (ty : TypeId) (sz : Nat) : Value → List (List Value) → Prop where
  | nil : OwS h ty sz nilS []
  | un (b o n lo hi : Nat) (c : NT Value) (ls : List (List Value)) (hn : n = ls.length) (hb : n < unk) (hg : h.ob.get b = some (.cells lo hi ty true c)) (h1 : lo ≤ o) (h2 : o + n * sz ≤ hi) (hr : h.rds b o ls.flatten) (hs : ∀ x ∈ ls, x.length = sz) : OwS h ty sz (mkS b o n (unk + sz)) ls
  | kn (b o n cap lo hi : Nat) (ty' : TypeId) (c : NT Value) (ls : List (List Value)) (hn : n = ls.length) (hb : n ≤ cap) (hc : cap < unk) (hg : h.ob.get b = some (.cells lo hi ty' true c)) (h1 : lo ≤ o) (h2 : o + cap * sz ≤ hi) (hr : h.rds b o ls.flatten) (hs : ∀ x ∈ ls, x.length = sz) : OwS h ty sz (mkS b o n cap) ls
def ownL : Value → List Nat
  | .slice (some a) _ _ => [a.block]
  | _ => []
theorem OwS.one {h : AH} {ty : TypeId} {sz : Nat} {v : Value} {ls : List (List Value)} (H : OwS h ty sz v ls) : oneCell v = true := by cases H <;> rfl
theorem OwS.read {h : AH} {ty : TypeId} {sz : Nat} {v : Value} {ls : List (List Value)} (H : OwS h ty sz v ls) : SlR h sz v ls := by
  cases H with
  | nil => exact .nil
  | un b o n lo hi c ls hn hb hg h1 h2 hr hs => exact .mk b o n _ ls hn ⟨hb, .inr rfl⟩ hs hr
  | kn b o n cap lo hi ty' c ls hn hb hc hg h1 h2 hr hs => exact .mk b o n cap ls hn ⟨by omega, .inl ⟨hb, hc⟩⟩ hs hr
theorem rds_cong {h h' : AH} {b o : Nat} {l : List Value} (e : h'.ob.get b = h.ob.get b) (H : h.rds b o l) : h'.rds b o l := fun i v hv => by
  have := H i v hv
  unfold AH.rd at this ⊢
  rw [e]; exact this
theorem OwS.cong {h h' : AH} {ty : TypeId} {sz : Nat} {v : Value} {ls : List (List Value)} (H : OwS h ty sz v ls) (e : ∀ b ∈ ownL v, h'.ob.get b = h.ob.get b) : OwS h' ty sz v ls := by
  cases H with
  | nil => exact .nil
  | un b o n lo hi c ls hn hb hg h1 h2 hr hs =>
    have e := e b (by simp [ownL])
    exact .un b o n lo hi c ls hn hb (e.trans hg) h1 h2 (rds_cong e hr) hs
  | kn b o n cap lo hi ty' c ls hn hb hc hg h1 h2 hr hs =>
    have e := e b (by simp [ownL])
    exact .kn b o n cap lo hi ty' c ls hn hb hc (e.trans hg) h1 h2 (rds_cong e hr) hs
inductive Ob where
  | bx (b : Nat) (l : List Value)
  | sl (ty : TypeId) (sz : Nat) (v : Value) (ls : List (List Value))
  | lp (n : Nat) (lo : LO) (st : LoopState) (pd : Option Code)
  | ds (d : List Nat)
  | mp (b : Nat) (es : List (Value × Value × Nat)) (cl : Nat)
  | raw (b : Nat) (a : AO)
def Ob.blk : Ob → List Nat
  | .bx b _ => [b]
  | .sl _ _ v _ => ownL v
  | .lp n _ _ _ => [n]
  | .ds d => d
  | .mp b _ _ => [b]
  | .raw b _ => [b]
def Ob.ok (h : AH) : Ob → Prop
  | .bx b l => h.rds b 0 l ∧ h.can b 0 l.length
  | .sl ty sz v ls => OwS h ty sz v ls
  | .lp n lo st pd => h.ob.get n = some (lo st pd)
  | .ds d => ∀ r ∈ d, h.ob.get r = some (.defs false)
  | .mp b es cl => h.ob.get b = some (.map es cl)
  | .raw b a => h.ob.get b = some a
theorem can_cong {h h' : AH} {b o n : Nat} (e : h'.ob.get b = h.ob.get b) (H : h.can b o n) : h'.can b o n := by
  obtain ⟨lo, hi, ty, c, h1, h2, h3⟩ := H
  exact ⟨lo, hi, ty, c, e.trans h1, h2, h3⟩
theorem Ob.cong {h h' : AH} {o : Ob} (H : o.ok h) (e : ∀ b ∈ o.blk, h'.ob.get b = h.ob.get b) : o.ok h' := by
  cases o with
  | bx b l =>
    have e := e b (by simp [Ob.blk])
    exact ⟨rds_cong e H.1, can_cong e H.2⟩
  | sl ty sz v ls => exact OwS.cong H e
  | lp n lo st pd => exact (e n (by simp [Ob.blk])).trans H
  | ds d => exact fun r hr => (e r hr).trans (H r hr)
  | mp b es cl => exact (e b (by simp [Ob.blk])).trans H
  | raw b a => exact (e b (by simp [Ob.blk])).trans H
structure Cx where
  g : AH
  h : AH
  C : List Nat
structure Sep (c : Cx) (g h : AH) (Γ : List Ob) : Prop where
  sub0 : Sub c.g g
  sub : Sub g h
  ok : h.Ok
  nx : c.h.nx ≤ h.nx
  old : ∀ f, f < c.h.nx → f ∉ c.C → h.ob.get f = c.h.ob.get f ∧ (c.g.ob.get f = none → g.ob.get f = none)
  obs : ∀ o ∈ Γ, o.ok h
  nd : (Γ.flatMap Ob.blk).Nodup
  own : ∀ b ∈ Γ.flatMap Ob.blk, b < h.nx ∧ g.ob.get b = none ∧ (c.h.nx ≤ b ∨ b ∈ c.C)
section
variable {c : Cx} {g h h' g' : AH} {Γ Γ' : List Ob} {o : Ob}
theorem Sep.start (S : Sub g h) (ok : h.Ok) : Sep ⟨g, h, []⟩ g h [] := ⟨.refl _, S, ok, Nat.le_refl _, fun f _ _ => ⟨rfl, id⟩, fun o ho => by simp at ho, by simp, fun b hb => by simp at hb⟩
theorem Sep.perm (S : Sep c g h Γ) (p : Γ'.Perm Γ) : Sep c g h Γ' :=
  have pf : (Γ'.flatMap Ob.blk).Perm (Γ.flatMap Ob.blk) := p.flatMap_right _
  ⟨S.sub0, S.sub, S.ok, S.nx, S.old, fun o ho => S.obs o (p.mem_iff.1 ho), pf.nodup_iff.2 S.nd, fun b hb => S.own b (pf.mem_iff.1 hb)⟩
theorem perm_front {α : Type} : ∀ {l : List α} {i : Nat} {x : α}, l[i]? = some x → (x :: l.eraseIdx i).Perm l
  | [], i, x, h => by simp at h
  | y :: l, 0, x, h => by simp at h; subst h; exact .refl _
  | y :: l, i + 1, x, h => by
    have := perm_front (l := l) (i := i) (x := x) (by simpa using h)
    exact (List.Perm.swap y x _).trans (this.cons y)
theorem Sep.front (S : Sep c g h Γ) (i : Nat) (hi : Γ[i]? = some o) (e : Γ.eraseIdx i = Γ') : Sep c g h (o :: Γ') := e ▸ S.perm (perm_front hi)
theorem Sep.drop (S : Sep c g h (o :: Γ)) : Sep c g h Γ :=
  ⟨S.sub0, S.sub, S.ok, S.nx, S.old, fun x hx => S.obs x (List.mem_cons_of_mem _ hx), by have := S.nd; rw [List.flatMap_cons] at this; exact (List.nodup_append.1 this).2.1, fun b hb => S.own b (by rw [List.flatMap_cons]; exact List.mem_append_right _ hb)⟩
theorem Sep.drops (S : Sep c g h Γ) : Sep c g h [] :=
  ⟨S.sub0, S.sub, S.ok, S.nx, S.old, fun x hx => by simp at hx, by simp, fun b hb => by simp at hb⟩
theorem Sep.apart (S : Sep c g h (o :: Γ)) {b : Nat} (hb : b ∈ o.blk) : b ∉ Γ.flatMap Ob.blk := fun hb' => by
  have := S.nd
  rw [List.flatMap_cons] at this
  exact (List.nodup_append.1 this).2.2 b hb b hb' rfl
theorem Sep.change (S : Sep c g h (o :: Γ)) (o' : Ob) (ok' : h'.Ok) (nx' : h.nx ≤ h'.nx) (keep : ∀ f, f < h.nx → f ∉ o.blk → h'.ob.get f = h.ob.get f) (ho : o'.ok h') (nd' : o'.blk.Nodup)
    (hb : ∀ b ∈ o'.blk, b < h'.nx ∧ (h.nx ≤ b ∨ b ∈ o.blk)) : Sep c g h' (o' :: Γ) := by
  have own := fun b hb => S.own b (show b ∈ (o :: Γ).flatMap Ob.blk from hb)
  have ownh : ∀ b ∈ o.blk, b < h.nx ∧ g.ob.get b = none ∧ (c.h.nx ≤ b ∨ b ∈ c.C) := fun b hb => own b (by rw [List.flatMap_cons]; exact List.mem_append_left _ hb)
  have gnone : ∀ f, h.nx ≤ f → g.ob.get f = none := fun f hf => by
    cases hg : g.ob.get f with
    | none => rfl
    | some x => have := S.sub.get f x hg; rw [S.ok f hf] at this; cases this
  refine ⟨S.sub0, ⟨Nat.le_trans S.sub.nx nx', fun f x hx => ?_⟩, ok', Nat.le_trans S.nx nx', fun f hf hc => ?_, fun x hx => ?_, ?_, fun b hb' => ?_⟩
  · have h1 := S.sub.get f x hx
    have hlt : f < h.nx := AH.lt_of_get S.ok h1
    rw [keep f hlt (fun hm => by rw [(ownh f hm).2.1] at hx; cases hx)]; exact h1
  · obtain ⟨h1, h2⟩ := S.old f hf hc
    refine ⟨?_, h2⟩
    rw [keep f (Nat.lt_of_lt_of_le hf S.nx) (fun hm => by exact (ownh f hm).2.2.elim (fun h3 => by omega) hc)]; exact h1
  · rcases List.mem_cons.1 hx with rfl | hx
    · exact ho
    · refine Ob.cong (S.obs x (List.mem_cons_of_mem _ hx)) fun b hb2 => ?_
      have hm : b ∈ Γ.flatMap Ob.blk := List.mem_flatMap.2 ⟨x, hx, hb2⟩
      have hlt := (own b (by rw [List.flatMap_cons]; exact List.mem_append_right _ hm)).1
      exact keep b hlt fun hm2 => S.apart hm2 hm
  · rw [List.flatMap_cons]
    refine List.nodup_append.2 ⟨nd', S.drop.nd, fun a ha b hb2 e => ?_⟩
    subst e
    rcases (hb a ha).2 with h1 | h1
    · have := (S.drop.own a hb2).1; omega
    · exact S.apart h1 hb2
  · rw [List.flatMap_cons] at hb'
    rcases List.mem_append.1 hb' with h1 | h1
    · obtain ⟨h2, h3⟩ := hb b h1
      refine ⟨h2, ?_⟩
      rcases h3 with h3 | h3
      · exact ⟨gnone b h3, .inl (Nat.le_trans S.nx h3)⟩
      · exact (ownh b h3).2
    · obtain ⟨h2, h3⟩ := S.drop.own b h1
      exact ⟨by omega, h3⟩
theorem Sep.add (S : Sep c g h Γ) (o' : Ob) (ok' : h'.Ok) (nx' : h.nx ≤ h'.nx) (keep : ∀ f, f < h.nx → h'.ob.get f = h.ob.get f) (ho : o'.ok h') (nd' : o'.blk.Nodup) (hb : ∀ b ∈ o'.blk, b < h'.nx ∧ h.nx ≤ b) : Sep c g h' (o' :: Γ) := by
  have S0 : Sep c g h (.sl 0 0 nilS [] :: Γ) := ⟨S.sub0, S.sub, S.ok, S.nx, S.old, fun x hx => by
    rcases List.mem_cons.1 hx with rfl | hx
    · exact OwS.nil
    · exact S.obs x hx, by rw [List.flatMap_cons]; exact S.nd, fun b hb => S.own b (by rw [List.flatMap_cons] at hb; exact hb)⟩
  exact S0.change o' ok' nx' (fun f hf _ => keep f hf) ho nd' fun b hb' => ⟨(hb b hb').1, .inl (hb b hb').2⟩
theorem Sep.nilsl (S : Sep c g h Γ) (ty : TypeId) (sz : Nat) : Sep c g h (.sl ty sz nilS [] :: Γ) := S.add _ S.ok (Nat.le_refl _) (fun _ _ => rfl) OwS.nil (by simp [Ob.blk, ownL]) (fun b hb => by simp [Ob.blk, ownL] at hb)
theorem Sep.keep (S : Sep c g h Γ) (K : Keep h h') (ok' : h'.Ok) : Sep c g h' Γ :=
  (Sep.add S (.sl 0 0 nilS []) ok' K.nx K.get OwS.nil (by simp [Ob.blk, ownL]) (fun b hb => by simp [Ob.blk, ownL] at hb)).drop
theorem Sep.call {Γ1 : List Ob} (S : Sep c g h Γ) (S' : Sep ⟨g, h, []⟩ g' h' Γ1) : Sep c g' h' (Γ1 ++ Γ) := by
  have own' : ∀ b ∈ Γ1.flatMap Ob.blk, b < h'.nx ∧ g'.ob.get b = none ∧ h.nx ≤ b := fun b hb => by
    obtain ⟨h1, h2, h3⟩ := S'.own b hb
    refine ⟨h1, h2, ?_⟩
    rcases h3 with h3 | h3
    · exact h3
    · simp at h3
  have old' : ∀ f, f < h.nx → h'.ob.get f = h.ob.get f ∧ (g.ob.get f = none → g'.ob.get f = none) := fun f hf => S'.old f hf (by simp)
  refine ⟨S.sub0.trans S'.sub0, S'.sub, S'.ok, Nat.le_trans S.nx S'.nx, fun f hf hc => ?_, fun x hx => ?_, ?_, fun b hb => ?_⟩
  · obtain ⟨h1, h2⟩ := S.old f hf hc
    obtain ⟨h3, h4⟩ := old' f (Nat.lt_of_lt_of_le hf S.nx)
    exact ⟨h3.trans h1, fun hn => h4 (h2 hn)⟩
  · rcases List.mem_append.1 hx with hx | hx
    · exact S'.obs x hx
    · refine Ob.cong (S.obs x hx) fun b hb => ?_
      exact (old' b (S.own b (List.mem_flatMap.2 ⟨x, hx, hb⟩)).1).1
  · rw [List.flatMap_append]
    refine List.nodup_append.2 ⟨S'.nd, S.nd, fun a ha b hb e => ?_⟩
    subst e
    have := (own' a ha).2.2
    have := (S.own a hb).1
    omega
  · rw [List.flatMap_append] at hb
    rcases List.mem_append.1 hb with hb | hb
    · obtain ⟨h1, h2, h3⟩ := own' b hb
      exact ⟨h1, h2, .inl (Nat.le_trans S.nx h3)⟩
    · obtain ⟨h1, h2, h3⟩ := S.own b hb
      exact ⟨Nat.lt_of_lt_of_le h1 S'.nx, (old' b h1).2 h2, h3⟩
def AH.addB (g h : AH) (b : Nat) : AH := ⟨h.nx, g.ob.set b (h.ob.get b)⟩
theorem AH.addB_get (g h : AH) (b f : Nat) : (g.addB h b).ob.get f = if f = b then h.ob.get b else g.ob.get f := by
  show (g.ob.set b _).get f = _
  rw [NT.get_set]
theorem Sep.freeze (S : Sep c g h (o :: Γ)) {b : Nat} (hb : o.blk = [b]) : Sub g (g.addB h b) ∧ Sep c (g.addB h b) h Γ ∧ (g.addB h b).ob.get b = h.ob.get b := by
  have hbm : b ∈ o.blk := by rw [hb]; simp
  obtain ⟨h1, h2, h3⟩ := S.own b (by rw [List.flatMap_cons]; exact List.mem_append_left _ hbm)
  have sg : Sub g (g.addB h b) := ⟨S.sub.nx, fun f x hx => by
    rw [AH.addB_get]
    split
    · rename_i e; subst e; rw [h2] at hx; cases hx
    · exact hx⟩
  refine ⟨sg, ⟨S.sub0.trans sg, ⟨Nat.le_refl _, fun f x hx => ?_⟩, S.ok, S.nx, fun f hf hc => ?_, S.drop.obs, S.drop.nd, fun b' hb' => ?_⟩, by rw [AH.addB_get, if_pos rfl]⟩
  · rw [AH.addB_get] at hx
    split at hx
    · rename_i e; subst e; exact hx
    · exact S.sub.get f x hx
  · obtain ⟨h4, h5⟩ := S.old f hf hc
    refine ⟨h4, fun hn => ?_⟩
    rw [AH.addB_get, if_neg]
    · exact h5 hn
    · rintro rfl
      rcases h3 with h3 | h3
      · omega
      · exact hc h3
  · obtain ⟨h4, h5, h6⟩ := S.drop.own b' hb'
    refine ⟨h4, ?_, h6⟩
    rw [AH.addB_get, if_neg]
    · exact h5
    · rintro rfl; exact S.apart hbm hb'
theorem Sep.fzbx {b : Nat} {l : List Value} (S : Sep c g h (.bx b l :: Γ)) : ∃ g', Sub g g' ∧ Sep c g' h Γ ∧ g'.rds b 0 l := by
  obtain ⟨h1, h2, h3⟩ := S.freeze (b := b) rfl
  exact ⟨_, h1, h2, rds_cong h3 (S.obs _ List.mem_cons_self).1⟩
theorem Sep.fzsl {ty : TypeId} {sz : Nat} {v : Value} {ls : List (List Value)} (S : Sep c g h (.sl ty sz v ls :: Γ)) : ∃ g', Sub g g' ∧ Sep c g' h Γ ∧ SlR g' sz v ls := by
  have H : OwS h ty sz v ls := S.obs _ List.mem_cons_self
  have R := H.read
  cases R with
  | nil => exact ⟨g, .refl _, S.drop, .nil⟩
  | mk b o n cap ls hn hc hs hr =>
    obtain ⟨h1, h2, h3⟩ := S.freeze (b := b) rfl
    exact ⟨_, h1, h2, .mk b o n cap ls hn hc hs (rds_cong h3 hr)⟩
theorem Sep.fz {α : Type} {rep : Rep α} {ty : TypeId} {sz : Nat} {v : Value} {ls : List (List Value)} {l : List α} (S : Sep c g h (.sl ty sz v ls :: Γ)) (A : All2 (rep g) ls l) (hm : Mono rep) : ∃ g', Sub g g' ∧ Sep c g' h Γ ∧ FzS rep sz g' v l := by
  obtain ⟨g', h1, h2, h3⟩ := S.fzsl
  exact ⟨g', h1, h2, ls, h3, A.mono fun x y hxy => hm _ _ _ _ h1 hxy⟩
theorem Sep.back (S : Sep c g h Γ) (S' : Sep c g' h' Γ') (hs : Sub g g') : Sep c g h' Γ' :=
  ⟨S.sub0, hs.trans S'.sub, S'.ok, S'.nx, fun f hf hc => ⟨(S'.old f hf hc).1, fun hn => (S.old f hf hc).2 hn⟩, S'.obs, S'.nd, fun b hb => by
    obtain ⟨h1, h2, h3⟩ := S'.own b hb
    refine ⟨h1, ?_, h3⟩
    cases hg : g.ob.get b with
    | none => rfl
    | some x => rw [hs.get b x hg] at h2; cases h2⟩
end
end
end Go.Ve
namespace Go.Ve
open Go.RowKit
open Classical
noncomputable section
theorem br_lf {c : Bool} {A B : W} {h : AH} (ht : c = true → A h) (hf : c = false → B h) : br (.bool c) A B h := by
  cases c with
  | true => exact ht rfl
  | false => exact hf rfl
theorem gd_hit {c want : Bool} {A : (Value → W) → W} {K : Value → W} {h : AH} (e : c = want) (H : A K h) : gd (.bool c) want A K h := by
  subst e; unfold gd; cases c <;> exact H
theorem gd_mis {c want : Bool} {A : (Value → W) → W} {K : Value → W} {h : AH} (e : c ≠ want) (H : K undef h) : gd (.bool c) want A K h := by
  unfold gd; cases c <;> cases want <;> first | exact absurd rfl e | exact H
section
variable {c : Cx} {g h : AH} {Γ : List Ob} {R : Value → AH → Prop}
theorem Sep.fld1 {b o : Nat} {v : Value} (S : Sep c g h Γ) (hr : g.rd b o = some v) (K : R v h) : WP .load1 [mkP b o] h R := (WP_load1 (S.sub.rd hr)).2 K
theorem Sep.fldN {b o n : Nat} {l : List Value} (S : Sep c g h Γ) (hr : g.rds b o l) (hn : l.length = n) (h0 : 0 < n) (K : R (.agg ⟨l⟩) h) : WP (.loadN n) [mkP b o] h R := (WP_loadN (S.sub.rds hr) hn h0).2 K
theorem bx_new {ty : TypeId} {l : List Value} : Ob.ok (h.new ty l) (.bx h.nx l) := ⟨AH.rds_new h ty l, AH.can_new_same h ty l (by omega)⟩
theorem Sep.alloc {ty : TypeId} {l : List Value} (S : Sep c g h Γ) (ha : allOne l = true) (K : ∀ b h', Sep c g h' (.bx b l :: Γ) → R (mkP b 0) h') : WP (.alloc ty l) [] h R :=
  (WP_alloc ha).2 (K _ _ (S.add _ (AH.ok_new S.ok _ _) (Nat.le_succ _) (Keep.new h ty l).get bx_new (by simp [Ob.blk]) (fun b hb => by simp [Ob.blk] at hb; subst hb; exact ⟨Nat.lt_succ_self _, Nat.le_refl _⟩)))
theorem Sep.box {ty : TypeId} {v : Value} (l : List Value) (S : Sep c g h Γ) (hl : cellsOf v = l) (ha : allOne l = true) (K : ∀ b h', Sep c g h' (.bx b l :: Γ) → R (mkP b 0) h') : WP (.box ty) [v] h R := by
  subst hl
  exact (WP_box ha).2 (K _ _ (S.add _ (AH.ok_new S.ok _ _) (Nat.le_succ _) (Keep.new h ty _).get bx_new (by simp [Ob.blk]) (fun b hb => by simp [Ob.blk] at hb; subst hb; exact ⟨Nat.lt_succ_self _, Nat.le_refl _⟩)))
theorem Sep.bld1 {b o : Nat} {l : List Value} {v : Value} (S : Sep c g h Γ) (i : Nat) (hi : Γ[i]? = some (.bx b l)) (hv : l[o]? = some v) (K : R v h) : WP .load1 [mkP b o] h R := by
  have := (S.obs _ (List.mem_of_getElem? hi)).1 o v hv
  rw [Nat.zero_add] at this
  exact (WP_load1 this).2 K
theorem Sep.bldN {b o n : Nat} {l : List Value} (m : List Value) (S : Sep c g h Γ) (i : Nat) (hi : Γ[i]? = some (.bx b l)) (hm : (l.drop o).take n = m) (hn : m.length = n) (h0 : 0 < n) (K : R (.agg ⟨m⟩) h) : WP (.loadN n) [mkP b o] h R := by
  have := rds_take n (rds_drop o (S.obs _ (List.mem_of_getElem? hi)).1)
  rw [Nat.zero_add, hm] at this
  exact (WP_loadN this hn h0).2 K
theorem splL_get {l m : List Value} {o j : Nat} (hl : o + m.length ≤ l.length) : (splL l o m)[j]? = if o ≤ j ∧ j < o + m.length then m[j - o]? else l[j]? := by
  unfold splL
  by_cases h1 : j < o
  · rw [if_neg (by omega), List.append_assoc, List.getElem?_append_left (by rw [List.length_take]; omega), List.getElem?_take, if_pos h1]
  · rw [List.append_assoc, List.getElem?_append_right (by rw [List.length_take]; omega), List.length_take, Nat.min_eq_left (by omega)]
    by_cases h2 : j < o + m.length
    · rw [if_pos (by omega), List.getElem?_append_left (by omega)]
    · rw [if_neg (by omega), List.getElem?_append_right (by omega), List.getElem?_drop]; congr 1; omega
theorem splL_len {l m : List Value} {o : Nat} (hl : o + m.length ≤ l.length) : (splL l o m).length = l.length := by unfold splL; simp; omega
theorem Sep.bst {b o n : Nat} {l : List Value} {v : Value} (m l' : List Value) (S : Sep c g h (.bx b l :: Γ)) (hm : cellsOf v = m) (hn : m.length = n) (ha : allOne m = true) (ho : o + n ≤ l.length) (hl' : splL l o m = l') (K : ∀ h', Sep c g h' (.bx b l' :: Γ) → R undef h') : WP (.store n) [mkP b o, v] h R := by
  subst hm; subst hl'; subst hn
  have H : Ob.ok h (.bx b l) := S.obs _ List.mem_cons_self
  obtain ⟨h1, lo, hi, ty, cc, h2, h3, h4⟩ := H
  have hc : h.can b o (cellsOf v).length := ⟨lo, hi, ty, cc, h2, by omega, by omega⟩
  refine (WP_store hc rfl ha).2 (K _ ?_)
  have hlt := AH.lt_of_get S.ok h2
  refine S.change _ (AH.ok_wr S.ok _ _ _) (by rw [AH.wr_nx]; exact Nat.le_refl _) (fun f _ hf => AH.wr_get h (by simp [Ob.blk] at hf; exact hf)) ⟨fun i u hu => ?_, ?_⟩ (by simp [Ob.blk]) (fun b' hb' => by simp [Ob.blk] at hb'; subst hb'; exact ⟨by rw [AH.wr_nx]; exact hlt, .inr (by simp [Ob.blk])⟩)
  · rw [splL_get ho] at hu
    rw [Nat.zero_add, AH.rd_wr hc (Nat.le_refl _)]
    split at hu
    · rename_i hh; rw [if_pos ⟨rfl, hh⟩]; exact hu
    · rename_i hh; rw [if_neg (fun e => hh e.2)]; have := h1 i u hu; rwa [Nat.zero_add] at this
  · rw [splL_len ho]; exact AH.can_wr ⟨lo, hi, ty, cc, h2, h3, h4⟩
def ElemAt (v : Value) (sz i b o : Nat) : Prop := ∃ o0 n cap, v = mkS b o0 n cap ∧ o = o0 + i * sz
theorem SlR.len {h2 : AH} {sz : Nat} {v : Value} {ls : List (List Value)} (H : SlR h2 sz v ls) (K : R (vi (ls.length : Int)) h) : WP .lenSl [v] h R := by
  cases H with
  | nil => exact WP_lenNil.2 K
  | mk b o n cap ls hn hc hs hr => subst hn; exact WP_lenSl.2 K
theorem SlR.idx {h2 : AH} {sz : Nat} {v : Value} {ls : List (List Value)} (H : SlR h2 sz v ls) {i : Nat} {x : List Value} (hx : ls[i]? = some x) :
    ∃ b o, ElemAt v sz i b o ∧ h2.rds b o x ∧ ∀ (kd : IntKind) (h : AH) (R : Value → AH → Prop), R (mkP b o) h → WP (.idxSlice sz) [v, .int kd (i : Int)] h R := by
  have hi : i < ls.length := (List.getElem?_eq_some_iff.1 hx).1
  cases H with
  | nil => simp at hi
  | mk b o n cap ls hn hc hs hr =>
    subst hn
    refine ⟨b, o + i * sz, ⟨o, _, cap, rfl, rfl⟩, fun j u hu => ?_, fun kd h R K => (WP_idxSlice hi).2 K⟩
    have := hr (i * sz + j) u (flat_at hs hx j u hu)
    rwa [show o + (i * sz + j) = o + i * sz + j by omega] at this
theorem FzS.len {α : Type} {rep : Rep α} {g2 : AH} {sz : Nat} {v : Value} {l : List α} (F : FzS rep sz g2 v l) (K : R (vi (l.length : Int)) h) : WP .lenSl [v] h R := by
  obtain ⟨ls, h1, h2⟩ := F
  exact h1.len (by rw [h2.1]; exact K)
theorem FzS.idx {α : Type} {rep : Rep α} {sz : Nat} {v : Value} {l : List α} {n : Int} {x : α} {kd : IntKind} (F : FzS rep sz g v l) (hx : ix l n = some x) (K : ∀ b o vs, ElemAt v sz n.toNat b o → g.rds b o vs → rep g vs x → R (mkP b o) h) : WP (.idxSlice sz) [v, .int kd n] h R := by
  obtain ⟨i, rfl, hi, hx⟩ := ix_some hx
  obtain ⟨ls, h1, h2⟩ := F
  obtain ⟨cs, h3, h4⟩ := h2.get hx
  obtain ⟨b, o, h7, h5, h6⟩ := h1.idx h3
  exact h6 kd h R (K b o cs h7 h5 h4)
theorem Sep.oidx {α : Type} {rep : Rep α} {ty : TypeId} {sz : Nat} {v : Value} {ls : List (List Value)} {l : List α} {n : Int} {x : α} {kd : IntKind} (S : Sep c g h Γ) (k : Nat) (hk : Γ[k]? = some (.sl ty sz v ls)) (A : All2 (rep g) ls l) (hx : ix l n = some x)
    (K : ∀ b o cs, ElemAt v sz n.toNat b o → ls[n.toNat]? = some cs → rep g cs x → R (mkP b o) h) : WP (.idxSlice sz) [v, .int kd n] h R := by
  obtain ⟨i, rfl, hi, hx⟩ := ix_some hx
  obtain ⟨cs, h3, h4⟩ := A.get hx
  obtain ⟨b, o, h5, _, h6⟩ := (OwS.read (S.obs _ (List.mem_of_getElem? hk))).idx h3
  exact h6 kd h R (K b o cs h5 h3 h4)
theorem SlR.elem {h2 : AH} {sz : Nat} {v : Value} {ls : List (List Value)} (H : SlR h2 sz v ls) {i b o : Nat} {x : List Value} (hx : ls[i]? = some x) (E : ElemAt v sz i b o) : h2.rds b o x := by
  obtain ⟨b', o', ⟨o0, n, cap, e1, e2⟩, h1, _⟩ := H.idx hx
  obtain ⟨o0', n', cap', e3, e4⟩ := E
  rw [e1] at e3
  cases e3
  rw [e4, ← e2]; exact h1
theorem Sep.old1 {ty : TypeId} {sz : Nat} {v u : Value} {ls : List (List Value)} {i b o j : Nat} {cs : List Value} (S : Sep c g h Γ) (k : Nat) (hk : Γ[k]? = some (.sl ty sz v ls)) (E : ElemAt v sz i b o) (hc : ls[i]? = some cs) (hv : cs[j]? = some u) (K : R u h) : WP .load1 [mkP b (o + j)] h R :=
  (WP_load1 (((OwS.read (S.obs _ (List.mem_of_getElem? hk))).elem hc E) j u hv)).2 K
theorem OwS.wr {ty : TypeId} {sz : Nat} {v : Value} {ls : List (List Value)} {i b o j : Nat} {cs m : List Value} (H : OwS h ty sz v ls) (E : ElemAt v sz i b o) (hc : ls[i]? = some cs) (hj : j + m.length ≤ sz) :
    ownL v = [b] ∧ h.can b (o + j) m.length ∧ OwS (h.wr b (o + j) m) ty sz v (ls.set i (splL cs j m)) := by
  have hi : i < ls.length := (List.getElem?_eq_some_iff.1 hc).1
  obtain ⟨o0, n0, cap0, e1, e2⟩ := E
  subst e2
  have le : (i + 1) * sz ≤ ls.length * sz := Nat.mul_le_mul_right _ hi
  have hk : i * sz + sz ≤ ls.length * sz := by rw [Nat.add_mul, Nat.one_mul] at le; exact le
  have fl : ∀ (hs : ∀ x ∈ ls, x.length = sz) (q : Nat) (u : Value), (ls.set i (splL cs j m)).flatten[q]? = some u → (if i * sz + j ≤ q ∧ q < i * sz + j + m.length then m[q - (i * sz + j)]? else ls.flatten[q]?) = some u := by
    intro hs q u hu
    have hcs : cs.length = sz := hs cs (List.mem_of_getElem? hc)
    rw [flat_set hs (by rw [splL_len (by omega), hcs]) hi] at hu
    by_cases h1 : i * sz ≤ q ∧ q < i * sz + sz
    · rw [if_pos h1, splL_get (by omega)] at hu
      by_cases h2 : j ≤ q - i * sz ∧ q - i * sz < j + m.length
      · rw [if_pos h2] at hu; rw [if_pos (by omega)]; rw [show q - (i * sz + j) = q - i * sz - j by omega]; exact hu
      · rw [if_neg h2] at hu; rw [if_neg (by omega)]
        have := flat_at hs hc (q - i * sz) u hu
        rwa [show i * sz + (q - i * sz) = q by omega] at this
    · rw [if_neg h1] at hu; rw [if_neg (by omega)]; exact hu
  have sz' : ∀ (hs : ∀ x ∈ ls, x.length = sz), ∀ x ∈ ls.set i (splL cs j m), x.length = sz := fun hs x hx => by
    rcases List.mem_or_eq_of_mem_set hx with h1 | h1
    · exact hs x h1
    · have hcs : cs.length = sz := hs cs (List.mem_of_getElem? hc)
      rw [h1, splL_len (by omega), hcs]
  have getw : ∀ lo hi ty' cc, h.ob.get b = some (.cells lo hi ty' true cc) → (h.wr b (o0 + i * sz + j) m).ob.get b = some (.cells lo hi ty' true (layV cc (o0 + i * sz + j) m)) := fun lo hi ty' cc hg => by
    unfold AH.wr; rw [hg]; show (h.ob.set b _).get b = _; rw [NT.get_set, if_pos rfl]
  cases H with
  | nil => simp at hi
  | un b' o' n lo hi' cc ls hn hb hg h1 h2 hr hs =>
    cases e1
    have hcan : h.can b (o0 + i * sz + j) m.length := ⟨lo, hi', ty, cc, hg, by omega, by rw [hn] at h2; omega⟩
    refine ⟨rfl, hcan, .un b o0 n0 lo hi' _ _ (by simp [hn]) hb (getw _ _ _ _ hg) h1 h2 (fun q u hu => ?_) (sz' hs)⟩
    rw [AH.rd_wr hcan (Nat.le_refl _)]
    have := fl hs q u hu
    split at this
    · rw [if_pos (by omega)]; rw [show o0 + q - (o0 + i * sz + j) = q - (i * sz + j) by omega]; exact this
    · rw [if_neg (by omega)]; exact hr q u this
  | kn b' o' n cap lo hi' ty' cc ls hn hb hcc hg h1 h2 hr hs =>
    cases e1
    have : ls.length * sz ≤ cap0 * sz := Nat.mul_le_mul_right _ (by omega)
    have hcan : h.can b (o0 + i * sz + j) m.length := ⟨lo, hi', ty', cc, hg, by omega, by omega⟩
    refine ⟨rfl, hcan, .kn b o0 n0 cap0 lo hi' ty' _ _ (by simp [hn]) hb hcc (getw _ _ _ _ hg) h1 h2 (fun q u hu => ?_) (sz' hs)⟩
    rw [AH.rd_wr hcan (Nat.le_refl _)]
    have := fl hs q u hu
    split at this
    · rw [if_pos (by omega)]; rw [show o0 + q - (o0 + i * sz + j) = q - (i * sz + j) by omega]; exact this
    · rw [if_neg (by omega)]; exact hr q u this
theorem OwS.lt {ty : TypeId} {sz : Nat} {v : Value} {ls : List (List Value)} (H : OwS h ty sz v ls) (ok : h.Ok) : ∀ b ∈ ownL v, b < h.nx := by
  cases H with
  | nil => intro b hb; simp [ownL] at hb
  | un b o n lo hi c ls hn hb hg h1 h2 hr hs => intro b' hb'; simp [ownL] at hb'; subst hb'; exact AH.lt_of_get ok hg
  | kn b o n cap lo hi ty' c ls hn hb hc hg h1 h2 hr hs => intro b' hb'; simp [ownL] at hb'; subst hb'; exact AH.lt_of_get ok hg
theorem ownL_nd (v : Value) : (ownL v).Nodup := by unfold ownL; split <;> simp
theorem sl_nd {ty : TypeId} {sz : Nat} {v : Value} {ls : List (List Value)} : (Ob.sl ty sz v ls).blk.Nodup := ownL_nd v
theorem Sep.ost {ty : TypeId} {sz n : Nat} {v u : Value} {ls : List (List Value)} {i b o j : Nat} {cs : List Value} (m : List Value) (S : Sep c g h (.sl ty sz v ls :: Γ)) (E : ElemAt v sz i b o) (hc : ls[i]? = some cs) (hm : cellsOf u = m) (hn : m.length = n) (ha : allOne m = true) (hj : j + n ≤ sz)
    (K : ∀ h', Sep c g h' (.sl ty sz v (ls.set i (splL cs j m)) :: Γ) → R undef h') : WP (.store n) [mkP b (o + j), u] h R := by
  subst hm; subst hn
  have H : OwS h ty sz v ls := S.obs _ List.mem_cons_self
  obtain ⟨h1, h2, h3⟩ := H.wr E hc hj
  refine (WP_store h2 rfl ha).2 (K _ ?_)
  refine S.change _ (AH.ok_wr S.ok _ _ _) (by rw [AH.wr_nx]; exact Nat.le_refl _) (fun f _ hf => AH.wr_get h (fun e => hf (by subst e; show f ∈ ownL v; rw [h1]; simp))) h3 (ownL_nd v) (fun b' hb' => ⟨by rw [AH.wr_nx]; exact H.lt S.ok b' hb', .inr hb'⟩)
theorem Sep.mks {ty : TypeId} {sz : Nat} {zero : List Value} {n : Int} {k1 k2 : IntKind} (S : Sep c g h Γ) (hn : (decide (0 ≤ n) && decide (n ≤ 65536)) = true) (hz : zero.length = sz) (ha : allOne zero = true) (K : ∀ v h', Sep c g h' (.sl ty sz v (List.replicate n.toNat zero) :: Γ) → R v h') :
    WP (.mkSlice ty sz zero) [.int k1 n, .int k2 n] h R := by
  rw [Bool.and_eq_true, decide_eq_true_eq, decide_eq_true_eq] at hn
  obtain ⟨i, rfl⟩ : ∃ i : Nat, n = i := ⟨n.toNat, by omega⟩
  rw [Int.toNat_natCast] at K
  have hall : ∀ k : Nat, allOne (List.replicate k zero).flatten = true := by
    intro k
    induction k with
    | zero => rfl
    | succ k ih =>
      rw [List.replicate_succ, List.flatten_cons]
      have app : ∀ (l m : List Value), allOne l = true → allOne m = true → allOne (l ++ m) = true := fun l m h1 h2 => by
        induction l with
        | nil => exact h2
        | cons v l ihl =>
          rw [allOne_cons, Bool.and_eq_true] at h1
          rw [List.cons_append, allOne_cons, Bool.and_eq_true]
          exact ⟨h1.1, ihl h1.2⟩
      exact app _ _ ha ih
  refine (WP_mkSlice (Nat.le_refl i) (by omega) hz (hall i)).2 (K _ _ ?_)
  have hlen : (List.replicate i zero).flatten.length = i * sz := by rw [flat_len (sz := sz) (fun x hx => by rw [(List.mem_replicate.1 hx).2]; exact hz)]; simp
  refine S.add _ (AH.ok_new S.ok _ _) (Nat.le_succ _) (Keep.new h _ _).get ?_ sl_nd (fun b hb => by simp [Ob.blk, ownL] at hb; subst hb; exact ⟨Nat.lt_succ_self _, Nat.le_refl _⟩)
  refine .kn h.nx 0 i i 0 (List.replicate i zero).flatten.length ty _ _ (by simp) (Nat.le_refl _) (by unfold unk; omega) (by show (h.ob.set h.nx _).get h.nx = _; rw [NT.get_set, if_pos rfl]) (Nat.le_refl _) (by rw [hlen]; omega) ?_ (fun x hx => by rw [(List.mem_replicate.1 hx).2]; exact hz)
  exact AH.rds_new h ty _
theorem Sep.bsl {ty : TypeId} {n sz : Nat} {cells : List Value} {ps : List (Nat × Nat)} {vs : List Value} (ls : List (List Value)) (S : Sep c g h Γ) (hf : fillL cells ps vs = some ls.flatten) (hn : ls.length = n) (hu : n < 1000000) (hs : ∀ x ∈ ls, x.length = sz) (ha : allOne ls.flatten = true)
    (K : ∀ v h', Sep c g h' (.sl ty sz v ls :: Γ) → R v h') : WP (.buildSlice ty n cells ps) vs h R := by
  subst hn
  refine (WX_buildSlice hf ha).2 (K _ _ ?_)
  refine S.add _ (AH.ok_new S.ok _ _) (Nat.le_succ _) (Keep.new h _ _).get ?_ sl_nd (fun b hb => by simp [Ob.blk, ownL] at hb; subst hb; exact ⟨Nat.lt_succ_self _, Nat.le_refl _⟩)
  exact .kn h.nx 0 ls.length ls.length 0 ls.flatten.length ty _ ls rfl (Nat.le_refl _) (by unfold unk; omega) (by show (h.ob.set h.nx _).get h.nx = _; rw [NT.get_set, if_pos rfl]) (Nat.le_refl _) (by rw [flat_len hs]; omega) (AH.rds_new h ty _) hs
theorem SlR.src {sz : Nat} {x : Value} {xs : List (List Value)} (H : SlR h sz x xs) (h0 : 0 < sz) (k : Nat → List Value → Bool) : srcK h sz x k = k xs.length xs.flatten := by
  cases H with
  | nil => exact src_nil sz k
  | mk b o n cap _ hn hc hs hr =>
    subst hn
    cases xs with
    | nil => exact src_zero k
    | cons y l => exact src_sl hr (flat_len hs) (Nat.mul_pos (by simp) h0) k
theorem layV_rds {b o lo hi at_ : Nat} {ty : TypeId} {rw : Bool} {cc : NT Value} {old xs : List Value} {h2 : AH} (hg2 : h2.ob.get b = some (.cells lo hi ty rw (layV cc at_ xs))) (e : at_ = o + old.length) (h1 : lo ≤ o) (hhi : o + old.length + xs.length ≤ hi) (ho : ∀ q u, old[q]? = some u → cc.get (o + q) = some u) : h2.rds b o (old ++ xs) := by
  subst e
  intro q u hu
  have hq : q < (old ++ xs).length := (List.getElem?_eq_some_iff.1 hu).1
  rw [List.length_append] at hq
  unfold AH.rd
  rw [hg2]
  show (if lo ≤ o + q ∧ o + q + 1 ≤ hi then (layV cc (o + old.length) xs).get (o + q) else none) = some u
  rw [if_pos ⟨by omega, by omega⟩, layV_get]
  by_cases h : q < old.length
  · rw [if_neg (by omega)]
    rw [List.getElem?_append_left h] at hu
    exact ho q u hu
  · rw [if_pos ⟨by omega, by omega⟩]
    rw [List.getElem?_append_right (by omega)] at hu
    rw [show o + q - (o + old.length) = q - old.length by omega]; exact hu
theorem rds_get {b o lo hi : Nat} {ty : TypeId} {rw : Bool} {cc : NT Value} {l : List Value} (hg : h.ob.get b = some (.cells lo hi ty rw cc)) (hr : h.rds b o l) : ∀ q u, l[q]? = some u → cc.get (o + q) = some u := fun q u hu => by
  obtain ⟨lo', hi', ty', rw', c', g1, _, _, g4⟩ := rd_cells (hr q u hu)
  rw [hg] at g1; cases g1; exact g4
theorem app_len {sz : Nat} {ls xs : List (List Value)} (hs : ∀ x ∈ ls, x.length = sz) (hx : ∀ x ∈ xs, x.length = sz) : ∀ x ∈ ls ++ xs, x.length = sz := fun x h => by
  rcases List.mem_append.1 h with h | h
  · exact hs x h
  · exact hx x h
theorem allOne_app {l m : List Value} (h1 : allOne l = true) (h2 : allOne m = true) : allOne (l ++ m) = true := by
  induction l with
  | nil => exact h2
  | cons v l ih =>
    rw [allOne_cons, Bool.and_eq_true] at h1
    rw [List.cons_append, allOne_cons, Bool.and_eq_true]
    exact ⟨h1.1, ih h1.2⟩
theorem SlR.sizes {sz : Nat} {x : Value} {xs : List (List Value)} (H : SlR h sz x xs) : ∀ y ∈ xs, y.length = sz := by
  cases H with
  | nil => intro y hy; simp at hy
  | mk b o n cap ls hn hc hs hr => exact hs
theorem WP_append_empty {ty : TypeId} {sz n : Nat} {zero xs : List Value} {x : Value} (hx : ∀ k : Nat → List Value → Bool, srcK h sz x k = k n xs) (h1 : 1 ≤ sz) (hz : zero.length = sz) (hn : 0 < n) {b o cap : Nat} {s : Option Nat} (hb : n ≤ 1048576) (hc : cap < n) (ha : allOne xs = true) :
    WP (.append ty sz zero) [.slice (some ⟨b, o, s⟩) 0 cap, x] h R ↔ R (mkS h.nx 0 n (unk + sz)) (h.new ty xs) := WP_eq fun k => by
  rw [app_pre hx h1 hz]
  show (bif Nat.beq n 0 then k (.slice (some ⟨b, o, none⟩) 0 cap) h else fN (Nat.add 0 n) fun need => iff (Nat.ble need 1048576) (bif Nat.ble unk cap then _ else bif Nat.ble need cap then _ else bif Nat.beq 0 0 then newCells h ty xs (fun b' h => fN (Nat.add unk sz) fun cp => k (.slice (some ⟨b', 0, none⟩) need cp) h) else _)) = _
  have e : Nat.ble (0 + n) 1048576 = true := by rw [Nat.ble_eq]; omega
  have e2 : Nat.ble unk cap = false := by
    have : ¬ unk ≤ cap := by unfold unk; omega
    cases hh : Nat.ble unk cap with
    | false => rfl
    | true => rw [Nat.ble_eq] at hh; exact absurd hh this
  have e3 : Nat.ble (0 + n) cap = false := by
    cases hh : Nat.ble (0 + n) cap with
    | false => rfl
    | true => rw [Nat.ble_eq] at hh; omega
  rw [beqF (show n ≠ 0 by omega)]
  simp only [cond_false]
  rw [fN_eq, show Nat.add 0 n = 0 + n from rfl, e, iff_T, e2, e3]
  show newCells h ty xs _ = _
  rw [newCells_eq h ty ha, fN_eq, Nat.zero_add]; rfl
theorem WP_append_room {ty : TypeId} {sz n : Nat} {zero xs : List Value} {x : Value} (hx : ∀ k : Nat → List Value → Bool, srcK h sz x k = k n xs) (h1 : 1 ≤ sz) (hz : zero.length = sz) (hn : 0 < n) {b o len cap : Nat} {s : Option Nat} (hb : len + n ≤ 1048576) (hc : len + n ≤ cap) (hu : cap < unk) (ha : allOne xs = true) (hw : h.can b (o + len * sz) xs.length) :
    WP (.append ty sz zero) [.slice (some ⟨b, o, s⟩) len cap, x] h R ↔ R (mkS b o (len + n) cap) (h.wr b (o + len * sz) xs) := WP_eq fun k => by
  rw [app_pre hx h1 hz]
  show (bif Nat.beq n 0 then k (.slice (some ⟨b, o, none⟩) len cap) h else fN (Nat.add len n) fun need => iff (Nat.ble need 1048576) (bif Nat.ble unk cap then _ else bif Nat.ble need cap then fN (Nat.add o (Nat.mul len sz)) (fun at_ => writeAt h b at_ xs fun h => k (.slice (some ⟨b, o, none⟩) need cap) h) else _)) = _
  have e : Nat.ble (len + n) 1048576 = true := by rw [Nat.ble_eq]; omega
  have e2 : Nat.ble unk cap = false := by
    cases hh : Nat.ble unk cap with
    | false => rfl
    | true => rw [Nat.ble_eq] at hh; omega
  have e3 : Nat.ble (len + n) cap = true := by rw [Nat.ble_eq]; exact hc
  rw [beqF (show n ≠ 0 by omega)]
  simp only [cond_false]
  rw [fN_eq, show Nat.add len n = len + n from rfl, e, iff_T, e2, e3]
  simp only [cond_true, cond_false]
  rw [fN_eq]
  show writeAt h b (o + len * sz) xs _ = _
  rw [writeAt_eq hw ha]
theorem Sep.app {ty : TypeId} {sz : Nat} {zero : List Value} {s x : Value} {ls xs : List (List Value)} (S : Sep c g h (.sl ty sz s ls :: Γ)) (X : SlR h sz x xs) (hb : decide (ls.length + xs.length ≤ 1048576) = true) (h0 : 0 < sz) (hz : zero.length = sz) (ha : allOne xs.flatten = true) (hal : allOne ls.flatten = true)
    (K : ∀ s' h', Sep c g h' (.sl ty sz s' (ls ++ xs) :: Γ) → R s' h') : WP (.append ty sz zero) [s, x] h R := by
  rw [decide_eq_true_eq] at hb
  have hsrc := X.src h0
  have hxs := X.sizes
  have H : OwS h ty sz s ls := S.obs _ List.mem_cons_self
  have hlx : xs.flatten.length = xs.length * sz := flat_len hxs
  cases xs with
  | nil =>
    cases H with
    | nil => exact (WP_append0_nil hsrc h0 hz).2 (K _ _ (by simpa using S))
    | un b o n lo hi cc ls hn hbb hg h1 h2 hr hs => exact (WP_append0 hsrc h0 hz).2 (K _ _ (by simpa using S))
    | kn b o n cap lo hi ty' cc ls hn hbb hcc hg h1 h2 hr hs => exact (WP_append0 hsrc h0 hz).2 (K _ _ (by simpa using S))
  | cons y xs =>
    have hpos : 0 < (y :: xs).length := by simp
    generalize y :: xs = xs at *
    have newOk : ∀ (all : List (List Value)), all.length < unk → (∀ x ∈ all, x.length = sz) → OwS (h.new ty all.flatten) ty sz (mkS h.nx 0 all.length (unk + sz)) all := fun all hu hs => by
      refine .un h.nx 0 all.length 0 all.flatten.length _ all rfl hu (by show (h.ob.set h.nx _).get h.nx = _; rw [NT.get_set, if_pos rfl]) (Nat.le_refl _) ?_ (AH.rds_new h ty _) hs
      rw [flat_len hs]; omega
    have unkBig : 1048576 < unk := by unfold unk; omega
    have fresh : ∀ (all : List (List Value)), all.length < unk → (∀ x ∈ all, x.length = sz) → Sep c g (h.new ty all.flatten) (.sl ty sz (mkS h.nx 0 all.length (unk + sz)) all :: Γ) := fun all hu hs =>
      S.change _ (AH.ok_new S.ok _ _) (Nat.le_succ _) (fun f hf _ => (Keep.new h ty _).get f hf) (newOk all hu hs) sl_nd (fun b hb => by simp [Ob.blk, ownL] at hb; subst hb; exact ⟨Nat.lt_succ_self _, .inl (Nat.le_refl _)⟩)
    cases H with
    | nil =>
      refine (WP_append_nil hsrc h0 hz hpos (by simpa using hb) ha).2 (K _ _ ?_)
      exact fresh xs (by simp at hb; omega) hxs
    | un b o n lo hi cc ls hn hbb hg h1 h2 hr hs =>
      subst hn
      refine (WP_append_unk hsrc h0 hz hpos hb ha hg h1 h2).2 (K _ _ ?_)
      have hlt := AH.lt_of_get S.ok hg
      have hgn : (h.grown b o ty cc (o + ls.length * sz) (o + (ls.length + xs.length) * sz) xs.flatten).ob.get h.nx = some (.cells o (o + (ls.length + xs.length) * sz) ty true (layV cc (o + ls.length * sz) xs.flatten)) := by
        show ((h.kill b).newO _).ob.get h.nx = _
        rw [AH.newO_get, if_pos (show h.nx = (h.kill b).nx from rfl)]
      refine S.change _ (AH.ok_newO (AH.ok_kill S.ok b) _) (Nat.le_succ _) (fun f hf hne => ?_) ?_ sl_nd (fun b' hb' => by simp [Ob.blk, ownL] at hb'; subst hb'; exact ⟨Nat.lt_succ_self _, .inl (Nat.le_refl _)⟩)
      · have hfb : f ≠ b := fun e => hne (by rw [e]; simp [Ob.blk, ownL])
        show ((h.kill b).newO _).ob.get f = _
        rw [AH.newO_get, if_neg (show ¬ f = (h.kill b).nx from fun e => by have e' : f = h.nx := e; omega), AH.kill_get, if_neg hfb]
      · refine .un h.nx o (ls.length + xs.length) o (o + (ls.length + xs.length) * sz) _ (ls ++ xs) (by simp) (by omega) hgn (Nat.le_refl _) (Nat.le_refl _) ?_ (app_len hs hxs)
        rw [List.flatten_append]
        exact layV_rds hgn (by rw [flat_len hs]) (Nat.le_refl _) (by rw [flat_len hs, hlx, Nat.add_mul]; omega) (rds_get hg hr)
    | kn b o n cap lo hi ty' cc ls hn hbb hcc hg h1 h2 hr hs =>
      subst hn
      by_cases hroom : ls.length + xs.length ≤ cap
      · have hmul : (ls.length + xs.length) * sz ≤ cap * sz := Nat.mul_le_mul_right _ hroom
        rw [Nat.add_mul] at hmul
        have hw : h.can b (o + ls.length * sz) xs.flatten.length := ⟨lo, hi, ty', cc, hg, by omega, by rw [hlx]; omega⟩
        refine (WP_append_room hsrc h0 hz hpos hb hroom hcc ha hw).2 (K _ _ ?_)
        have hgn : (h.wr b (o + ls.length * sz) xs.flatten).ob.get b = some (.cells lo hi ty' true (layV cc (o + ls.length * sz) xs.flatten)) := by
          unfold AH.wr; rw [hg]; show (h.ob.set b _).get b = _; rw [NT.get_set, if_pos rfl]
        refine S.change _ (AH.ok_wr S.ok _ _ _) (by rw [AH.wr_nx]; exact Nat.le_refl _) (fun f _ hf => AH.wr_get h (fun e => hf (by rw [e]; simp [Ob.blk, ownL]))) ?_ sl_nd (fun b' hb' => by simp [Ob.blk, ownL] at hb'; subst hb'; exact ⟨by rw [AH.wr_nx]; exact AH.lt_of_get S.ok hg, .inr (by simp [Ob.blk, ownL])⟩)
        refine .kn b o (ls.length + xs.length) cap lo hi ty' _ (ls ++ xs) (by simp) hroom hcc hgn h1 h2 ?_ (app_len hs hxs)
        rw [List.flatten_append]
        exact layV_rds hgn (by rw [flat_len hs]) h1 (by rw [flat_len hs, hlx]; omega) (rds_get hg hr)
      · have hr' := hr
        have big := fresh (ls ++ xs) (by simp; omega) (app_len hs hxs)
        rw [List.flatten_append, List.length_append] at big
        cases ls with
        | nil =>
          have : WP (.append ty sz zero) [mkS b o 0 cap, x] h R := (WP_append_empty hsrc h0 hz hpos (by simpa using hb) (by simp at hroom; omega) ha).2 (K _ _ (by simpa using big))
          simpa using this
        | cons z ls =>
          exact (WP_append_full hsrc h0 hz hpos hb (by omega) (allOne_app hal ha) (by simp) hr (flat_len hs)).2 (K _ _ big)
def subL {α : Type} (l : List α) (a b : Int) : Option (List α) := gu (decide (0 ≤ a) && decide (a ≤ b) && decide (b ≤ (l.length : Int))) (some ((l.take b.toNat).drop a.toNat))
theorem subL_some {α : Type} {l m : List α} {a b : Int} (h : subL l a b = some m) : ∃ i j : Nat, a = i ∧ b = j ∧ i ≤ j ∧ j ≤ l.length ∧ m = (l.take j).drop i := by
  obtain ⟨h1, h2⟩ := gu_some h
  simp only [Bool.and_eq_true, decide_eq_true_eq] at h1
  cases h2
  exact ⟨a.toNat, b.toNat, by omega, by omega, by omega, by omega, rfl⟩
def cutV (sz : Nat) (v : Value) (i j : Nat) : Value := match v with
  | .slice (some a) n cap => if cap < unk then (if cap = i then .slice (some ⟨a.block, a.off, none⟩) (j - i) 0 else .slice (some ⟨a.block, a.off + i * sz, none⟩) (j - i) (cap - i)) else .slice (some ⟨a.block, a.off + i * sz, none⟩) (j - i) cap
  | v => v
theorem WP_cut {sz : Nat} {b o n cap i j : Nat} (hc : capOk sz n cap) (hij : i ≤ j) (hj : j ≤ n) (lo hi : Bool) {vs : List Value} (hl : lo = false → i = 0) (hh : hi = false → j = n) {k1 k2 : IntKind} (hv : vs = (if lo then [.int k1 (i : Int)] else []) ++ (if hi then [.int k2 (j : Int)] else [])) (K : R (cutV sz (mkS b o n cap) i j) h) :
    WP (.slice sz lo hi false) (mkS b o n cap :: vs) h R := by
  have key : ∀ k : KV, (iff (true && Nat.ble i j && Nat.ble j cap && (Nat.ble j n || !(Nat.ble unk cap)) && true && (bif Nat.ble unk cap then Nat.beq cap (Nat.add unk sz) else true)) (sliceCapK sz i j cap cap false b o fun v => k v h)) = k (cutV sz (mkS b o n cap) i j) h := fun k => by
    obtain ⟨hn, hc⟩ := hc
    rcases hc with ⟨h1, h2⟩ | h1
    · have e1 : Nat.ble unk cap = false := by
        cases hh : Nat.ble unk cap with
        | false => rfl
        | true => rw [Nat.ble_eq] at hh; omega
      have e2 : (true && Nat.ble i j && Nat.ble j cap && (Nat.ble j n || !(Nat.ble unk cap)) && true && (bif Nat.ble unk cap then Nat.beq cap (Nat.add unk sz) else true)) = true := by
        rw [e1]; simp only [Bool.and_eq_true, Nat.ble_eq, Bool.or_eq_true, Bool.not_false, cond_false]; exact ⟨⟨⟨⟨⟨trivial, hij⟩, by omega⟩, .inl hj⟩, trivial⟩, trivial⟩
      rw [e2, iff_T]
      unfold sliceCapK
      rw [fN_eq, e1]
      show iff (Nat.ble (Nat.succ cap) unk) _ = _
      have e3 : Nat.ble (Nat.succ cap) unk = true := by rw [Nat.ble_eq]; exact h2
      rw [e3, iff_T]
      show _ = k (if cap < unk then (if cap = i then .slice (some ⟨b, o, none⟩) (j - i) 0 else .slice (some ⟨b, o + i * sz, none⟩) (j - i) (cap - i)) else .slice (some ⟨b, o + i * sz, none⟩) (j - i) cap) h
      rw [if_pos h2]
      by_cases hcl : cap = i
      · rw [if_pos hcl, beqT hcl]; rfl
      · rw [if_neg hcl, beqF hcl]
        simp only [cond_false]
        rw [fN_eq, fN_eq]; rfl
    · subst h1
      have e1 : Nat.ble unk (unk + sz) = true := by rw [Nat.ble_eq]; omega
      have e4 : Nat.beq (unk + sz) (Nat.add unk sz) = true := by rw [Nat.beq_eq]; rfl
      have e2 : (true && Nat.ble i j && Nat.ble j (unk + sz) && (Nat.ble j n || !(Nat.ble unk (unk + sz))) && true && (bif Nat.ble unk (unk + sz) then Nat.beq (unk + sz) (Nat.add unk sz) else true)) = true := by
        rw [e1, e4]; simp only [Bool.and_eq_true, Nat.ble_eq, Bool.or_eq_true, Bool.not_true, cond_true]; exact ⟨⟨⟨⟨⟨trivial, hij⟩, by omega⟩, .inl hj⟩, trivial⟩, trivial⟩
      rw [e2, iff_T]
      unfold sliceCapK
      rw [fN_eq, e1]
      simp only [Bool.not_false, Bool.and_true, cond_true]
      rw [fN_eq]
      show _ = k (if unk + sz < unk then _ else .slice (some ⟨b, o + i * sz, none⟩) (j - i) (unk + sz)) h
      rw [if_neg (by omega)]; rfl
  subst hv
  cases lo <;> cases hi
  · have hl := hl rfl; have hh := hh rfl; subst hl; subst hh
    exact (WP_eq (p := .slice sz false false false) (vs := [mkS b o j cap]) (v := cutV sz (mkS b o j cap) 0 j) (h' := h) (h := h) key).2 K
  · have hl := hl rfl; subst hl
    exact (WP_eq (p := .slice sz false true false) (vs := [mkS b o n cap, .int k2 (j : Int)]) (v := cutV sz (mkS b o n cap) 0 j) (h' := h) (h := h) key).2 K
  · have hh := hh rfl; subst hh
    exact (WP_eq (p := .slice sz true false false) (vs := [mkS b o j cap, .int k1 (i : Int)]) (v := cutV sz (mkS b o j cap) i j) (h' := h) (h := h) key).2 K
  · exact (WP_eq (p := .slice sz true true false) (vs := [mkS b o n cap, .int k1 (i : Int), .int k2 (j : Int)]) (v := cutV sz (mkS b o n cap) i j) (h' := h) (h := h) key).2 K
theorem SlR.cut {h2 : AH} {sz : Nat} {v : Value} {ls : List (List Value)} (H : SlR h2 sz v ls) {i j : Nat} (hij : i ≤ j) (hj : j ≤ ls.length) (lo hi : Bool) (hl : lo = false → i = 0) (hh : hi = false → j = ls.length) {k1 k2 : IntKind} {vs : List Value} (hv : vs = (if lo then [.int k1 (i : Int)] else []) ++ (if hi then [.int k2 (j : Int)] else [])) :
    ∃ v', SlR h2 sz v' ((ls.take j).drop i) ∧ ∀ (h : AH) (R : Value → AH → Prop), R v' h → WP (.slice sz lo hi false) (v :: vs) h R := by
  cases H with
  | nil =>
    have hj0 : j = 0 := by simpa using hj
    have hi0 : i = 0 := by omega
    subst hj0; subst hi0
    refine ⟨nilS, .nil, fun h R K => ?_⟩
    subst hv
    refine WP.mono (R := R) (fun v h hr => hr) ?_
    cases lo <;> cases hi <;> exact fun k hk => hk _ _ K
  | mk b o n cap ls hn hc hs hr =>
    subst hn
    refine ⟨cutV sz (mkS b o ls.length cap) i j, ?_, fun h R K => WP_cut hc hij hj lo hi hl hh hv K⟩
    have hr' : h2.rds b (o + i * sz) ((ls.take j).drop i).flatten := by
      rw [flat_drop i (fun x hx => hs x (List.mem_of_mem_take hx)), flat_take j hs]
      exact rds_drop _ (rds_take _ hr)
    have hs' : ∀ x ∈ (ls.take j).drop i, x.length = sz := fun x hx => hs x (List.mem_of_mem_take (List.mem_of_mem_drop hx))
    have hlen : ((ls.take j).drop i).length = j - i := by simp; omega
    obtain ⟨h0, hc⟩ := hc
    show SlR h2 sz (if cap < unk then (if cap = i then .slice (some ⟨b, o, none⟩) (j - i) 0 else .slice (some ⟨b, o + i * sz, none⟩) (j - i) (cap - i)) else .slice (some ⟨b, o + i * sz, none⟩) (j - i) cap) _
    rcases hc with ⟨h3, h4⟩ | h3
    · rw [if_pos h4]
      by_cases hcl : cap = i
      · rw [if_pos hcl]
        have : j = i := by omega
        subst this
        have e : (ls.take j).drop j = [] := List.drop_of_length_le (by rw [List.length_take]; omega)
        rw [e]
        exact .mk b o (j - j) 0 [] (by rw [Nat.sub_self]; rfl) ⟨by omega, .inl ⟨by omega, by omega⟩⟩ (by simp) (AH.rds_nil _ _ _)
      · rw [if_neg hcl]
        exact .mk b _ _ _ _ hlen.symm ⟨by omega, .inl ⟨by omega, by omega⟩⟩ hs' hr'
    · rw [if_neg (by omega)]
      exact .mk b _ _ _ _ hlen.symm ⟨by omega, .inr h3⟩ hs' hr'
theorem OwS.cut {ty : TypeId} {sz : Nat} {v : Value} {ls : List (List Value)} (H : OwS h ty sz v ls) {i j : Nat} (hij : i ≤ j) (hj : j ≤ ls.length) (lo hi : Bool) (hl : lo = false → i = 0) (hh : hi = false → j = ls.length) {k1 k2 : IntKind} {vs : List Value} (hv : vs = (if lo then [.int k1 (i : Int)] else []) ++ (if hi then [.int k2 (j : Int)] else [])) :
    ∃ v', OwS h ty sz v' ((ls.take j).drop i) ∧ ownL v' = ownL v ∧ ∀ (R : Value → AH → Prop), R v' h → WP (.slice sz lo hi false) (v :: vs) h R := by
  cases H with
  | nil =>
    have hj0 : j = 0 := by simpa using hj
    have hi0 : i = 0 := by omega
    subst hj0; subst hi0
    refine ⟨nilS, .nil, rfl, fun R K => ?_⟩
    subst hv
    cases lo <;> cases hi <;> exact fun k hk => hk _ _ K
  | un b o n lo' hi' cc ls hn hbb hg h1 h2 hr hs =>
    subst hn
    refine ⟨cutV sz (mkS b o ls.length (unk + sz)) i j, ?_, ?_, fun R K => WP_cut ⟨hbb, .inr rfl⟩ hij hj lo hi hl hh hv K⟩
    · show OwS h ty sz (if unk + sz < unk then _ else .slice (some ⟨b, o + i * sz, none⟩) (j - i) (unk + sz)) _
      rw [if_neg (by omega)]
      have m1 : i * sz ≤ j * sz := Nat.mul_le_mul_right _ hij
      have m2 : j * sz ≤ ls.length * sz := Nat.mul_le_mul_right _ hj
      refine .un b _ _ lo' hi' cc _ (by simp; omega) (by omega) hg (by omega) (by rw [Nat.sub_mul]; omega) ?_ (fun x hx => hs x (List.mem_of_mem_take (List.mem_of_mem_drop hx)))
      rw [flat_drop i (fun x hx => hs x (List.mem_of_mem_take hx)), flat_take j hs]
      exact rds_drop _ (rds_take _ hr)
    · show ownL (if unk + sz < unk then _ else .slice (some ⟨b, o + i * sz, none⟩) (j - i) (unk + sz)) = _
      rw [if_neg (by omega)]; rfl
  | kn b o n cap lo' hi' ty' cc ls hn hbb hcc hg h1 h2 hr hs =>
    subst hn
    refine ⟨cutV sz (mkS b o ls.length cap) i j, ?_, ?_, fun R K => WP_cut ⟨by omega, .inl ⟨hbb, hcc⟩⟩ hij hj lo hi hl hh hv K⟩
    · show OwS h ty sz (if cap < unk then (if cap = i then .slice (some ⟨b, o, none⟩) (j - i) 0 else .slice (some ⟨b, o + i * sz, none⟩) (j - i) (cap - i)) else .slice (some ⟨b, o + i * sz, none⟩) (j - i) cap) _
      rw [if_pos hcc]
      have m1 : i * sz ≤ cap * sz := Nat.mul_le_mul_right _ (by omega)
      by_cases hcl : cap = i
      · rw [if_pos hcl]
        have : j = i := by omega
        subst this
        have e : (ls.take j).drop j = [] := List.drop_of_length_le (by rw [List.length_take]; omega)
        rw [e]
        exact .kn b o _ 0 lo' hi' ty' cc [] (by simp) (by omega) (by omega) hg h1 (by omega) (AH.rds_nil _ _ _) (by simp)
      · rw [if_neg hcl]
        refine .kn b _ _ _ lo' hi' ty' cc _ (by simp; omega) (by omega) (by omega) hg (by omega) (by rw [Nat.sub_mul]; omega) ?_ (fun x hx => hs x (List.mem_of_mem_take (List.mem_of_mem_drop hx)))
        rw [flat_drop i (fun x hx => hs x (List.mem_of_mem_take hx)), flat_take j hs]
        exact rds_drop _ (rds_take _ hr)
    · show ownL (if cap < unk then (if cap = i then .slice (some ⟨b, o, none⟩) (j - i) 0 else .slice (some ⟨b, o + i * sz, none⟩) (j - i) (cap - i)) else .slice (some ⟨b, o + i * sz, none⟩) (j - i) cap) = _
      by_cases h5 : cap = i
      · rw [if_pos hcc, if_pos h5]; rfl
      · rw [if_pos hcc, if_neg h5]; rfl
end
end
end Go.Ve
namespace Go.Ve
open Go.RowKit
open Classical
noncomputable section
def One {α : Type} (rep : Rep α) (n : Nat) : Prop := ∀ g vs x, rep g vs x → vs.length = n ∧ allOne vs = true
theorem one_I (k : IntKind) : One (rI k) 1 := fun _ vs x h => by cases h; exact ⟨rfl, rfl⟩
theorem one_cons {v : Value} {l : List Value} (h1 : oneCell v = true) (h2 : allOne l = true) : allOne (v :: l) = true := by rw [allOne_cons, h1, h2]; rfl
theorem all_one {α : Type} {rep : Rep α} {n : Nat} (H : One rep n) {g : AH} {ls : List (List Value)} {l : List α} (A : All2 (rep g) ls l) : allOne ls.flatten = true := by
  induction ls generalizing l with
  | nil => rfl
  | cons x ls ih =>
    cases l with
    | nil => have := A.1; simp at this
    | cons y l =>
      rw [List.flatten_cons]
      refine allOne_app (H g x y (A.2 0 x y rfl rfl)).2 (ih (l := l) ⟨by simpa using A.1, fun i a b ha hb => A.2 (i + 1) a b (by simpa using ha) (by simpa using hb)⟩)
def bytesOf (l : List UInt8) : ByteArray := ⟨⟨l⟩⟩
theorem sz_nil {sz : Nat} : ∀ x ∈ ([] : List (List Value)), x.length = sz := fun x h => by simp at h
theorem sz_cons {sz : Nat} {y : List Value} {l : List (List Value)} (h1 : y.length = sz) (h2 : ∀ x ∈ l, x.length = sz) : ∀ x ∈ y :: l, x.length = sz := fun x h => by
  rcases List.mem_cons.1 h with rfl | h
  · exact h1
  · exact h2 x h
theorem fillL_step {l m l2 r : List Value} {o n : Nat} {ps : List (Nat × Nat)} {v : Value} {vs : List Value} (h1 : cellsOf v = m) (h2 : m.length = n) (h3 : o + n ≤ l.length) (h4 : splL l o m = l2) (H : fillL l2 ps vs = some r) : fillL l ((o, n) :: ps) (v :: vs) = some r := by
  subst h1; subst h4
  unfold fillL
  rw [if_pos ⟨h2, h3⟩]; exact H
theorem gd_und {want : Bool} {A : (Value → W) → W} {K : Value → W} {h : AH} (H : K undef h) : gd undef want A K h := H
theorem br_t {A B : W} {h : AH} (H : A h) : br (.bool true) A B h := H
theorem br_f {A B : W} {h : AH} (H : B h) : br (.bool false) A B h := H
section
variable {c : Cx} {g h g' h' : AH} {Γ : List Ob} {R : Value → AH → Prop}
theorem arr_idx1 {α : Type} {len : Nat} (l : List α) (f : α → Value) (hl : l.length = len) {n : Int} {x : α} {kd : IntKind} (hx : ix l n = some x) (K : R (f x) h) : WP (.index1 len) [.agg ⟨l.map f⟩, .int kd n] h R := by
  obtain ⟨i, rfl, hi, hx⟩ := ix_some hx
  exact (WP_index1 (by omega) (by rw [List.getElem?_map, hx]; rfl)).2 K
theorem Sep.own1 {ty : TypeId} {sz : Nat} {v : Value} {ls : List (List Value)} (S : Sep c g h Γ) (k : Nat) (hk : Γ[k]? = some (.sl ty sz v ls)) : oneCell v = true := OwS.one (S.obs _ (List.mem_of_getElem? hk))
theorem Sep.rd {ty : TypeId} {sz : Nat} {v : Value} {ls : List (List Value)} (S : Sep c g h Γ) (k : Nat) (hk : Γ[k]? = some (.sl ty sz v ls)) : SlR h sz v ls := OwS.read (S.obs _ (List.mem_of_getElem? hk))
theorem Sep.call0 (S : Sep c g h Γ) (S' : Sep ⟨g, h, []⟩ g' h' []) : Sep c g h' Γ :=
  S.call ((Sep.start S.sub S.ok).back S' S'.sub0)
theorem Sep.take (S : Sep c g h Γ) (n : Nat) : Sep c g h (Γ.take n) := by
  have hsub : (Γ.take n).Sublist Γ := List.take_sublist n Γ
  have hf : ((Γ.take n).flatMap Ob.blk).Sublist (Γ.flatMap Ob.blk) := by
    have e : Γ.flatMap Ob.blk = (Γ.take n).flatMap Ob.blk ++ (Γ.drop n).flatMap Ob.blk := by rw [← List.flatMap_append, List.take_append_drop]
    rw [e]; exact List.sublist_append_left _ _
  exact ⟨S.sub0, S.sub, S.ok, S.nx, S.old, fun x hx => S.obs x (hsub.subset hx), hf.nodup S.nd, fun b hb => S.own b (hf.subset hb)⟩
theorem WPb {ss : List Nat} {vs : List Value} (l : List Value) (hs : sizL ss vs = true) (e : vs.flatMap cellsOf = l) (K : R (.agg ⟨l⟩) h) : WP (.buildAll ss) vs h R := (WX_buildAll hs).2 (by rw [e]; exact K)
theorem eqS_nil : eqScals [] [] [] = some true := rfl
theorem eqS_int {k : IntKind} {x y : Int} {ks : List Nat} {l m : List Value} {b : Bool} (H : eqScals ks l m = some b) : eqScals (0 :: ks) (.int k x :: l) (.int k y :: m) = some (decide (x = y) && b) := by
  have e : eqScal 0 (.int k x) (.int k y) = some (decide (x = y)) := by
    show (bif eqK k k then some (eqI x y) else none) = _
    rw [eqK_same, eqI_dec]; rfl
  unfold eqScals
  rw [e, H]
  cases decide (x = y) <;> rfl
theorem WX_eqAgg {ks : List Nat} {l m : List Value} {b ng : Bool} {R : Value → AH → Prop} (e : eqScals ks l m = some b) : WP (.eqAgg ng ks) [.agg ⟨l⟩, .agg ⟨m⟩] h R ↔ R (.bool (b != ng)) h := WP_eq fun k => by
  show optBK (eqScals ks l m) ng (fun v => k v h) = _
  rw [e]
  show fB (bif ng then !b else b) (fun b => k (.bool b) h) = _
  rw [fB_eq]; cases b <;> cases ng <;> rfl
theorem FzS.cutH {α : Type} {rep : Rep α} {sz : Nat} {v : Value} {l m : List α} {b : Int} {k2 : IntKind} (F : FzS rep sz g v l) (S : Sep c g h Γ) (hx : subL l 0 b = some m) (K : ∀ v', FzS rep sz g v' m → R v' h) : WP (.slice sz false true false) [v, .int k2 b] h R := by
  obtain ⟨i, j, e, rfl, h1, h2, rfl⟩ := subL_some hx
  have e : i = 0 := by omega
  subst e
  obtain ⟨ls, h3, h4⟩ := F
  obtain ⟨v', h5, h6⟩ := h3.cut (i := 0) (j := j) (k1 := .i64) (k2 := k2) h1 (by rw [h4.1]; exact h2) false true (fun _ => rfl) (by simp) rfl
  exact h6 h R (K v' ⟨_, h5, (h4.take j).drop 0⟩)
theorem Sep.cut {α : Type} {rep : Rep α} {ty : TypeId} {sz : Nat} {v : Value} {ls : List (List Value)} {l : List α} {i j : Nat} {k1 k2 : IntKind} {vs : List Value} (S : Sep c g h (.sl ty sz v ls :: Γ)) (A : All2 (rep g) ls l) (h1 : i ≤ j) (h2 : j ≤ l.length) (lo hi : Bool) (hl : lo = false → i = 0) (hh : hi = false → j = l.length)
    (hv : vs = (if lo then [.int k1 (i : Int)] else []) ++ (if hi then [.int k2 (j : Int)] else [])) (K : ∀ v' ls', Sep c g h (.sl ty sz v' ls' :: Γ) → All2 (rep g) ls' ((l.take j).drop i) → R v' h) : WP (.slice sz lo hi false) (v :: vs) h R := by
  have H : OwS h ty sz v ls := S.obs _ List.mem_cons_self
  obtain ⟨v', h5, h6, h7⟩ := H.cut (k1 := k1) (k2 := k2) h1 (by rw [A.1]; exact h2) lo hi hl (fun e => (hh e).trans A.1.symm) hv
  refine h7 R (K v' _ ?_ ((A.take j).drop i))
  refine S.change _ S.ok (Nat.le_refl _) (fun _ _ _ => rfl) h5 sl_nd (fun b hb => ?_)
  have hb' : b ∈ ownL v := by have hb2 : b ∈ ownL v' := hb; rwa [h6] at hb2
  exact ⟨H.lt S.ok b hb', .inr hb'⟩
theorem Sep.cutH {α : Type} {rep : Rep α} {ty : TypeId} {sz : Nat} {v : Value} {ls : List (List Value)} {l m : List α} {b : Int} {k2 : IntKind} (S : Sep c g h (.sl ty sz v ls :: Γ)) (A : All2 (rep g) ls l) (hx : subL l 0 b = some m) (K : ∀ v' ls', Sep c g h (.sl ty sz v' ls' :: Γ) → All2 (rep g) ls' m → R v' h) : WP (.slice sz false true false) [v, .int k2 b] h R := by
  obtain ⟨i, j, e, rfl, h1, h2, rfl⟩ := subL_some hx
  exact S.cut (k1 := .i64) A h1 h2 false true (fun _ => by omega) (by simp) rfl K
end
end
end Go.Ve
namespace Go.Ve
open Go.RowKit
section
variable {c : Cx} {g h g' h' : AH} {Γ : List Ob} {o : Ob}
theorem Sep.f1 {a0 a1 : Ob} (S : Sep c g h (a0 :: a1 :: Γ)) : Sep c g h (a1 :: a0 :: Γ) := S.front 1 rfl rfl
theorem Sep.f2 {a0 a1 a2 : Ob} (S : Sep c g h (a0 :: a1 :: a2 :: Γ)) : Sep c g h (a2 :: a0 :: a1 :: Γ) := S.front 2 rfl rfl
theorem Sep.f3 {a0 a1 a2 a3 : Ob} (S : Sep c g h (a0 :: a1 :: a2 :: a3 :: Γ)) : Sep c g h (a3 :: a0 :: a1 :: a2 :: Γ) := S.front 3 rfl rfl
theorem Sep.f4 {a0 a1 a2 a3 a4 : Ob} (S : Sep c g h (a0 :: a1 :: a2 :: a3 :: a4 :: Γ)) : Sep c g h (a4 :: a0 :: a1 :: a2 :: a3 :: Γ) := S.front 4 rfl rfl
theorem Sep.f5 {a0 a1 a2 a3 a4 a5 : Ob} (S : Sep c g h (a0 :: a1 :: a2 :: a3 :: a4 :: a5 :: Γ)) : Sep c g h (a5 :: a0 :: a1 :: a2 :: a3 :: a4 :: Γ) := S.front 5 rfl rfl
theorem Sep.f6 {a0 a1 a2 a3 a4 a5 a6 : Ob} (S : Sep c g h (a0 :: a1 :: a2 :: a3 :: a4 :: a5 :: a6 :: Γ)) : Sep c g h (a6 :: a0 :: a1 :: a2 :: a3 :: a4 :: a5 :: Γ) := S.front 6 rfl rfl
theorem Sep.f7 {a0 a1 a2 a3 a4 a5 a6 a7 : Ob} (S : Sep c g h (a0 :: a1 :: a2 :: a3 :: a4 :: a5 :: a6 :: a7 :: Γ)) : Sep c g h (a7 :: a0 :: a1 :: a2 :: a3 :: a4 :: a5 :: a6 :: Γ) := S.front 7 rfl rfl
theorem Sep.f8 {a0 a1 a2 a3 a4 a5 a6 a7 a8 : Ob} (S : Sep c g h (a0 :: a1 :: a2 :: a3 :: a4 :: a5 :: a6 :: a7 :: a8 :: Γ)) : Sep c g h (a8 :: a0 :: a1 :: a2 :: a3 :: a4 :: a5 :: a6 :: a7 :: Γ) := S.front 8 rfl rfl
theorem Sep.t0 (S : Sep c g h Γ) : Sep c g h [] := S.drops
theorem Sep.t1 {a0 : Ob} (S : Sep c g h (a0 :: Γ)) : Sep c g h [a0] := S.take 1
theorem Sep.t2 {a0 a1 : Ob} (S : Sep c g h (a0 :: a1 :: Γ)) : Sep c g h [a0, a1] := S.take 2
theorem Sep.t4 {a0 a1 a2 a3 : Ob} (S : Sep c g h (a0 :: a1 :: a2 :: a3 :: Γ)) : Sep c g h [a0, a1, a2, a3] := S.take 4
theorem Sep.t5 {a0 a1 a2 a3 a4 : Ob} (S : Sep c g h (a0 :: a1 :: a2 :: a3 :: a4 :: Γ)) : Sep c g h [a0, a1, a2, a3, a4] := S.take 5
theorem Sep.t6 {a0 a1 a2 a3 a4 a5 : Ob} (S : Sep c g h (a0 :: a1 :: a2 :: a3 :: a4 :: a5 :: Γ)) : Sep c g h [a0, a1, a2, a3, a4, a5] := S.take 6
theorem Sep.callE (S : Sep c g h Γ) (S1 : Sep ⟨g, h, []⟩ g' h' []) : Sep c g' h' Γ := S.call S1
theorem Sep.callO (S : Sep c g h Γ) (S1 : Sep ⟨g, h, []⟩ g' h' [o]) : Sep c g' h' (o :: Γ) := S.call S1
end
end Go.Ve
namespace Go.Ve.T
open Go.Ve Go.Proofs
noncomputable section
set_option maxRecDepth 10000
structure G_api_Ins where
  fOp : Int
  fA : Int
  fB : Int
  fC : Int
deriving DecidableEq
def G_api_Ins.rep : Rep G_api_Ins := fun g vs x => vs = [(vi x.fOp), (vi x.fA), (vi x.fB), (vi x.fC)]
theorem G_api_Ins.mono : Mono G_api_Ins.rep := fun _ _ _ _ _ e => e
theorem G_api_Ins.one : One G_api_Ins.rep 4 := fun g vs x e => e ▸ ⟨rfl, rfl⟩
structure G_api_Guard where
  fFrom : Int
  fTo : Int
  fAt : Int
deriving DecidableEq
def G_api_Guard.rep : Rep G_api_Guard := fun g vs x => vs = [(vi x.fFrom), (vi x.fTo), (vi x.fAt)]
theorem G_api_Guard.mono : Mono G_api_Guard.rep := fun _ _ _ _ _ e => e
theorem G_api_Guard.one : One G_api_Guard.rep 3 := fun g vs x e => e ▸ ⟨rfl, rfl⟩
structure G_api_Unit where
  fClass : ByteArray
  fName : ByteArray
  fArgs : Int
  fSlots : Int
  fFrame : Int
  fCode : List G_api_Ins
  fGuards : List G_api_Guard
deriving DecidableEq
def G_api_Unit.rep : Rep G_api_Unit := fun g vs x => ∃ w1 w2 : Value, vs = [(.string x.fClass), (.string x.fName), (vi x.fArgs), (vi x.fSlots), (vi x.fFrame), w1, w2] ∧ FzS G_api_Ins.rep 4 g w1 x.fCode ∧ FzS G_api_Guard.rep 3 g w2 x.fGuards
structure G_cosignerref08_Cutted where
  fU : G_api_Unit
  fAt : List Int
  fE : Int
deriving DecidableEq
structure GA3_Int where
  e0 : Int
  e1 : Int
  e2 : Int
deriving DecidableEq
structure GA2_Int where
  e0 : Int
  e1 : Int
deriving DecidableEq
structure G_core_form where
  fname : ByteArray
  fhas : GA3_Int
  fwrites : Int
  freads : GA2_Int
  fraises : Bool
  fendsNow : Bool
deriving DecidableEq
structure G_cosignerref08_Row where
  fHas : GA3_Int
  fWrites : Int
  fReads : GA2_Int
  fRaises : Bool
deriving DecidableEq
end
end Go.Ve.T
namespace Go.Ve.T
open Go.Ve Go.Proofs Go.ChangeShapes Go.WideShapes Go.ChangeAt Go.RowKit
section
variable {H : Type} {h : AH}
abbrev ADp (h : AH) (t : TypeId) (cs : List Value) (d : DataW H) : Prop := AD PP h t cs d
theorem all2_ex {α : Type} (R : List Value → α → Prop) (Pr : α → Prop) : ∀ ls : List (List Value), (∀ y ∈ ls, ∃ x, R y x ∧ Pr x) → ∃ l, All2 R ls l ∧ ∀ x ∈ l, Pr x := by
  intro ls
  induction ls with
  | nil => intro _; exact ⟨[], All2.nil, fun x hx => by cases hx⟩
  | cons y ls ih =>
    intro hh
    obtain ⟨x, h1, h2⟩ := hh y List.mem_cons_self
    obtain ⟨l, h3, h4⟩ := ih fun z hz => hh z (List.mem_cons_of_mem _ hz)
    refine ⟨x :: l, ⟨by rw [List.length_cons, List.length_cons, h3.1], fun i a c ha hc => ?_⟩, fun z hz => ?_⟩
    · cases i with
      | zero => simp at ha hc; rw [← ha, ← hc]; exact h1
      | succ i => exact h3.2 i a c (by simpa using ha) (by simpa using hc)
    · rcases List.mem_cons.1 hz with h | h
      · rw [h]; exact h2
      · exact h4 z h
theorem ad_int {t : TypeId} {cs : List Value} {d : DataW H} (hu : PP.underlying t = some (.int .i64)) (A : ADp h t cs d) : ∃ n, rI .i64 h cs n ∧ -9223372036854775808 ≤ n := by
  cases A with
  | int t k n hu' hw =>
    rw [hu] at hu'; cases hu'
    refine ⟨n, rfl, ?_⟩
    have : IntKind.i64.min ≤ n ∧ n ≤ IntKind.i64.max := by
      simpa [Lit.wf] using hw
    have e : IntKind.i64.min = -9223372036854775808 := by decide
    omega
  | bool _ _ hu' => rw [hu] at hu'; cases hu'
  | str _ _ hu' => rw [hu] at hu'; cases hu'
  | nils _ _ hu' => rw [hu] at hu'; cases hu'
  | sl _ _ _ _ _ _ _ _ _ hu' => rw [hu] at hu'; cases hu'
  | struct _ _ _ _ hu' => rw [hu] at hu'; cases hu'
  | arr _ _ _ _ _ hu' => rw [hu] at hu'; cases hu'
theorem ad_bool {t : TypeId} {cs : List Value} {d : DataW H} (hu : PP.underlying t = some .bool) (A : ADp h t cs d) : ∃ b, cs = [.bool b] := by
  cases A with
  | bool t b hu' => exact ⟨b, rfl⟩
  | int _ _ _ hu' => rw [hu] at hu'; cases hu'
  | str _ _ hu' => rw [hu] at hu'; cases hu'
  | nils _ _ hu' => rw [hu] at hu'; cases hu'
  | sl _ _ _ _ _ _ _ _ _ hu' => rw [hu] at hu'; cases hu'
  | struct _ _ _ _ hu' => rw [hu] at hu'; cases hu'
  | arr _ _ _ _ _ hu' => rw [hu] at hu'; cases hu'
theorem ad_str {t : TypeId} {cs : List Value} {d : DataW H} (hu : PP.underlying t = some .string) (A : ADp h t cs d) : ∃ s, cs = [.string s] := by
  cases A with
  | str t s hu' => exact ⟨s, rfl⟩
  | bool _ _ hu' => rw [hu] at hu'; cases hu'
  | int _ _ _ hu' => rw [hu] at hu'; cases hu'
  | nils _ _ hu' => rw [hu] at hu'; cases hu'
  | sl _ _ _ _ _ _ _ _ _ hu' => rw [hu] at hu'; cases hu'
  | struct _ _ _ _ hu' => rw [hu] at hu'; cases hu'
  | arr _ _ _ _ _ hu' => rw [hu] at hu'; cases hu'
theorem ad_slice {α : Type} {rep : Rep α} {sz : Nat} {t e : TypeId} {cs : List Value} {d : DataW H} (hu : PP.underlying t = some (.slice e)) (hz : PP.cellsOf e = sz) (Pr : α → Prop) (el : ∀ cs d, ADp (H := H) h e cs d → ∃ x, rep h cs x ∧ Pr x) (A : ADp h t cs d) : ∃ v l, cs = [v] ∧ FzS rep sz h v l ∧ ∀ x ∈ l, Pr x := by
  cases A with
  | nils t e' hu' => exact ⟨_, [], rfl, FzS.nil, fun x hx => by cases hx⟩
  | sl t e' b o n cap els rest css hu' hn hc hcap hl hz' hr he =>
    rw [hu] at hu'; cases hu'
    obtain ⟨l, h1, h2⟩ := all2_ex (rep h) Pr css fun y hy => by
      obtain ⟨i, hi⟩ := List.getElem?_of_mem hy
      have hlt : i < els.length := by rw [hn, ← hl]; exact (List.getElem?_eq_some_iff.1 hi).1
      exact el y _ (he i y _ hi (List.getElem?_eq_getElem hlt))
    refine ⟨_, l, rfl, ⟨css, .mk b o n cap css hl.symm ⟨?_, .inl ⟨hc, ?_⟩⟩ (fun x hx => by rw [← hz]; exact hz' x hx) hr, h1⟩, h2⟩
    · have : maxLen < unk := by decide
      omega
    · have : maxLen < unk := by decide
      omega
  | bool _ _ hu' => rw [hu] at hu'; cases hu'
  | int _ _ _ hu' => rw [hu] at hu'; cases hu'
  | str _ _ hu' => rw [hu] at hu'; cases hu'
  | struct _ _ _ _ hu' => rw [hu] at hu'; cases hu'
  | arr _ _ _ _ _ hu' => rw [hu] at hu'; cases hu'
theorem ad_struct {t : TypeId} {fs : Array Field} {cs : List Value} {d : DataW H} (hu : PP.underlying t = some (.struct fs)) (A : ADp h t cs d) : cs.length = PP.cellsOf t ∧ ∀ (i : Nat) (f : Field), fs[i]? = some f → ∃ d', ADp (H := H) h f.type ((cs.drop f.offset).take (PP.cellsOf f.type)) d' := by
  cases A with
  | struct t fs' cs ds hu' hl hd he =>
    rw [hu] at hu'; cases hu'
    refine ⟨hl, fun i f hf => ?_⟩
    have hlt : i < ds.length := by rw [hd]; exact (Array.getElem?_eq_some_iff.1 hf).1
    exact ⟨_, he i f _ hf (List.getElem?_eq_getElem hlt)⟩
  | bool _ _ hu' => rw [hu] at hu'; cases hu'
  | int _ _ _ hu' => rw [hu] at hu'; cases hu'
  | str _ _ hu' => rw [hu] at hu'; cases hu'
  | nils _ _ hu' => rw [hu] at hu'; cases hu'
  | sl _ _ _ _ _ _ _ _ _ hu' => rw [hu] at hu'; cases hu'
  | arr _ _ _ _ _ hu' => rw [hu] at hu'; cases hu'
theorem ad_fld {k z o : Nat} {cs : List Value} {d : DataW H} (hz : PP.cellsOf k = z) (A : ADp h k ((cs.drop o).take (PP.cellsOf k)) d) : ADp h k ((cs.drop o).take z) d := hz ▸ A
theorem sz25 : PP.cellsOf 25 = 7 := by kernel_rfl
theorem sz9 : PP.cellsOf 9 = 1 := by kernel_rfl
theorem ad_t9 {cs : List Value} {d : DataW H} (A : ADp h 9 cs d) : ∃ x, rS h cs x ∧ True := by
  obtain ⟨b, rfl⟩ := ad_str Tryz.underlying9 A
  exact ⟨b, rfl, trivial⟩
theorem sz3 : PP.cellsOf 3 = 1 := by kernel_rfl
theorem ad_t3 {cs : List Value} {d : DataW H} (A : ADp h 3 cs d) : ∃ x, rI .i64 h cs x ∧ -9223372036854775808 ≤ x := ad_int Tryz.underlying3 A
theorem sz22 : PP.cellsOf 22 = 1 := by kernel_rfl
theorem sz67 : PP.cellsOf 67 = 4 := by kernel_rfl
theorem lenN_4 {α : Type} {l : List α} (h : l.length = 4) : ∃ c0 c1 c2 c3, l = [c0, c1, c2, c3] := by
  match l, h with
  | [c0, c1, c2, c3], _ => exact ⟨c0, c1, c2, c3, rfl⟩
theorem ad_t67 {cs : List Value} {d : DataW H} (A : ADp h 67 cs d) : ∃ x, G_api_Ins.rep h cs x ∧ (-9223372036854775808 ≤ x.fOp) ∧ (-9223372036854775808 ≤ x.fA) ∧ (-9223372036854775808 ≤ x.fB) ∧ (-9223372036854775808 ≤ x.fC) := by
  obtain ⟨hl, hf⟩ := ad_struct Tryz.underlying67 A
  obtain ⟨_, A0⟩ := hf 0 _ rfl
  obtain ⟨x0, e0, p0⟩ := ad_t3 (ad_fld sz3 A0)
  obtain ⟨_, A1⟩ := hf 1 _ rfl
  obtain ⟨x1, e1, p1⟩ := ad_t3 (ad_fld sz3 A1)
  obtain ⟨_, A2⟩ := hf 2 _ rfl
  obtain ⟨x2, e2, p2⟩ := ad_t3 (ad_fld sz3 A2)
  obtain ⟨_, A3⟩ := hf 3 _ rfl
  obtain ⟨x3, e3, p3⟩ := ad_t3 (ad_fld sz3 A3)
  rw [sz67] at hl
  obtain ⟨c0, c1, c2, c3, rfl⟩ := lenN_4 hl
  cases e0
  cases e1
  cases e2
  cases e3
  exact ⟨⟨x0, x1, x2, x3⟩, rfl, ⟨p0, p1, p2, p3⟩⟩
theorem ad_t22 {cs : List Value} {d : DataW H} (A : ADp h 22 cs d) : ∃ x, (rL G_api_Ins.rep 4) h cs x ∧ ∀ y22 ∈ x, (-9223372036854775808 ≤ y22.fOp) ∧ (-9223372036854775808 ≤ y22.fA) ∧ (-9223372036854775808 ≤ y22.fB) ∧ (-9223372036854775808 ≤ y22.fC) := by
  obtain ⟨v, l, e, f, p⟩ := ad_slice (rep := G_api_Ins.rep) Tryz.underlying22 sz67 (fun y => (-9223372036854775808 ≤ y.fOp) ∧ (-9223372036854775808 ≤ y.fA) ∧ (-9223372036854775808 ≤ y.fB) ∧ (-9223372036854775808 ≤ y.fC)) (fun cs d A => ad_t67 A) A
  exact ⟨l, ⟨v, e, f⟩, p⟩
theorem sz23 : PP.cellsOf 23 = 1 := by kernel_rfl
theorem sz79 : PP.cellsOf 79 = 3 := by kernel_rfl
theorem lenN_3 {α : Type} {l : List α} (h : l.length = 3) : ∃ c0 c1 c2, l = [c0, c1, c2] := by
  match l, h with
  | [c0, c1, c2], _ => exact ⟨c0, c1, c2, rfl⟩
theorem ad_t79 {cs : List Value} {d : DataW H} (A : ADp h 79 cs d) : ∃ x, G_api_Guard.rep h cs x ∧ (-9223372036854775808 ≤ x.fFrom) ∧ (-9223372036854775808 ≤ x.fTo) ∧ (-9223372036854775808 ≤ x.fAt) := by
  obtain ⟨hl, hf⟩ := ad_struct Tryz.underlying79 A
  obtain ⟨_, A0⟩ := hf 0 _ rfl
  obtain ⟨x0, e0, p0⟩ := ad_t3 (ad_fld sz3 A0)
  obtain ⟨_, A1⟩ := hf 1 _ rfl
  obtain ⟨x1, e1, p1⟩ := ad_t3 (ad_fld sz3 A1)
  obtain ⟨_, A2⟩ := hf 2 _ rfl
  obtain ⟨x2, e2, p2⟩ := ad_t3 (ad_fld sz3 A2)
  rw [sz79] at hl
  obtain ⟨c0, c1, c2, rfl⟩ := lenN_3 hl
  cases e0
  cases e1
  cases e2
  exact ⟨⟨x0, x1, x2⟩, rfl, ⟨p0, p1, p2⟩⟩
theorem ad_t23 {cs : List Value} {d : DataW H} (A : ADp h 23 cs d) : ∃ x, (rL G_api_Guard.rep 3) h cs x ∧ ∀ y23 ∈ x, (-9223372036854775808 ≤ y23.fFrom) ∧ (-9223372036854775808 ≤ y23.fTo) ∧ (-9223372036854775808 ≤ y23.fAt) := by
  obtain ⟨v, l, e, f, p⟩ := ad_slice (rep := G_api_Guard.rep) Tryz.underlying23 sz79 (fun y => (-9223372036854775808 ≤ y.fFrom) ∧ (-9223372036854775808 ≤ y.fTo) ∧ (-9223372036854775808 ≤ y.fAt)) (fun cs d A => ad_t79 A) A
  exact ⟨l, ⟨v, e, f⟩, p⟩
theorem lenN_7 {α : Type} {l : List α} (h : l.length = 7) : ∃ c0 c1 c2 c3 c4 c5 c6, l = [c0, c1, c2, c3, c4, c5, c6] := by
  match l, h with
  | [c0, c1, c2, c3, c4, c5, c6], _ => exact ⟨c0, c1, c2, c3, c4, c5, c6, rfl⟩
theorem ad_t25 {cs : List Value} {d : DataW H} (A : ADp h 25 cs d) : ∃ x, G_api_Unit.rep h cs x ∧ (-9223372036854775808 ≤ x.fArgs) ∧ (-9223372036854775808 ≤ x.fSlots) ∧ (-9223372036854775808 ≤ x.fFrame) ∧ (∀ y22 ∈ x.fCode, (-9223372036854775808 ≤ y22.fOp) ∧ (-9223372036854775808 ≤ y22.fA) ∧ (-9223372036854775808 ≤ y22.fB) ∧ (-9223372036854775808 ≤ y22.fC)) ∧ (∀ y23 ∈ x.fGuards, (-9223372036854775808 ≤ y23.fFrom) ∧ (-9223372036854775808 ≤ y23.fTo) ∧ (-9223372036854775808 ≤ y23.fAt)) := by
  obtain ⟨hl, hf⟩ := ad_struct Tryz.underlying25 A
  obtain ⟨_, A0⟩ := hf 0 _ rfl
  obtain ⟨x0, e0, p0⟩ := ad_t9 (ad_fld sz9 A0)
  obtain ⟨_, A1⟩ := hf 1 _ rfl
  obtain ⟨x1, e1, p1⟩ := ad_t9 (ad_fld sz9 A1)
  obtain ⟨_, A2⟩ := hf 2 _ rfl
  obtain ⟨x2, e2, p2⟩ := ad_t3 (ad_fld sz3 A2)
  obtain ⟨_, A3⟩ := hf 3 _ rfl
  obtain ⟨x3, e3, p3⟩ := ad_t3 (ad_fld sz3 A3)
  obtain ⟨_, A4⟩ := hf 4 _ rfl
  obtain ⟨x4, e4, p4⟩ := ad_t3 (ad_fld sz3 A4)
  obtain ⟨_, A5⟩ := hf 5 _ rfl
  obtain ⟨x5, e5, p5⟩ := ad_t22 (ad_fld sz22 A5)
  obtain ⟨_, A6⟩ := hf 6 _ rfl
  obtain ⟨x6, e6, p6⟩ := ad_t23 (ad_fld sz23 A6)
  rw [sz25] at hl
  obtain ⟨w5, e5, f5⟩ := e5
  obtain ⟨w6, e6, f6⟩ := e6
  obtain ⟨c0, c1, c2, c3, c4, c5, c6, rfl⟩ := lenN_7 hl
  cases e0
  cases e1
  cases e2
  cases e3
  cases e4
  cases e5
  cases e6
  exact ⟨⟨x0, x1, x2, x3, x4, x5, x6⟩, ⟨w5, w6, rfl, f5, f6⟩, ⟨p2, p3, p4, p5, p6⟩⟩
theorem sz4 : PP.cellsOf 4 = 1 := by kernel_rfl
theorem ad_t4 {cs : List Value} {d : DataW H} (A : ADp h 4 cs d) : ∃ x, rB h cs x ∧ True := by
  obtain ⟨b, rfl⟩ := ad_bool Tryz.underlying4 A
  exact ⟨b, rfl, trivial⟩
theorem ad_t39 {cs : List Value} {d : DataW H} (A : ADp h 39 cs d) : ∃ x, (rL rB 1) h cs x ∧ ∀ y39 ∈ x, True := by
  obtain ⟨v, l, e, f, p⟩ := ad_slice (rep := rB) Tryz.underlying39 sz4 (fun y => True) (fun cs d A => ad_t4 A) A
  exact ⟨l, ⟨v, e, f⟩, p⟩
end
section
variable {H : Type} {enc : TypeId × Value → H}
theorem plainT25 : plainT PP 10 25 = true := by kernel_rfl
theorem plainT39 : plainT PP 10 39 = true := by kernel_rfl
theorem take1 {W : World} {t : TypeId} {v : Value} {d : DataW H} {ps : List MemPlace} (hp : plainT PP 10 t = true) (ht : DataW.Trod enc PP W 0 (fun _ => true) true t v d ps) {φ : Phi} {h : AH} (R : HR PP W φ h W) :
    ∃ φ' h' cs, HR PP W φ' h' W ∧ Go.Ve.Ext h.nx φ φ' ∧ Keep h h' ∧ LR φ' cs v.cells.toList ∧ ADp h' t cs d := by
  obtain ⟨fuel, hf⟩ := ht
  exact imp_trod 10 t _ _ fuel hp hf φ h R
end
end Go.Ve.T
namespace Go.Ve.T
open Go.Ve Go.Proofs
noncomputable section
set_option maxRecDepth 10000
def core_formOf_J1 (w0 : World) (E R : Value → W) (x0 : Value) (v1 : Value) : W :=
  cl PP w0 id_core_forms [] E fun v2 =>
  pr (.indexN 35 9) [v2, x0] fun v3 =>
  pr (.store 9) [v1, v3] fun v4 =>
  ld (.loadN 9) [v1] fun v5 =>
  R (.tuple ⟨[v5, (.bool true)]⟩)
def core_formOf_F (w0 : World) (E R : Value → W) (x0 : Value) : W :=
  pr (.alloc 138 [(bs []), (vi 0), (vi 0), (vi 0), (vi 0), (vi 0), (vi 0), (.bool false), (.bool false)]) [] fun v1 =>
  pr (.iop .lss) [x0, (vi 1)] fun v6 =>
  gd v6 false (fun k => k x0) fun v7 =>
  gd v6 false (fun k => pr (.iop .gtr) [v7, (vi 34)] k) fun v8 =>
  pr (.pick) [v6, (.bool true), v8] fun v9 =>
  br v9 (
  pr (.build [(bs []), (vi 0), (vi 0), (vi 0), (vi 0), (vi 0), (vi 0), (.bool false), (.bool false)] []) [] fun v10 =>
  pr (.store 9) [v1, v10] fun v11 =>
  ld (.loadN 9) [v1] fun v12 =>
  R (.tuple ⟨[v12, (.bool false)]⟩)) (
  core_formOf_J1 w0 E R x0 v1)
theorem core_formOf_wp {w0 : World} {h : AH} {Q : CR → AH → Prop} (x0 : Value) (H : core_formOf_F w0 (fun v h => Q (.pan v) h) (fun v h => Q (.ret v) h) x0 h) : WF PP w0 id_core_formOf [x0] h Q := by
  let E : Value → W := fun v h => Q (.pan v) h
  let R : Value → W := fun v h => Q (.ret v) h
  refine WF_enter hmix e84 ?_
  refine st_seq ?_
  refine st_ops ?_
  refine st_p (vs := []) (by kernel_rfl) H fun v1 h H => ?_
  refine st_m (v := (.bool false)) (by kernel_rfl) ?_
  refine st_nil ?_
  refine st_next ?_
  refine st_join (α := Unit) [(s0, x0), (s2, v1)] (fun a => []) (fun σ => ()) (fun a => core_formOf_J1 w0 E R x0 v1 ) (fun σ => trivial) (fun a1 σ h H => ?_) ?_
  · refine st_seq ?_
    refine st_ops ?_
    refine st_c (vs := []) (by kernel_rfl) H (fun _ _ H => H) fun v2 h H => ?_
    refine st_m (v := x0) (by kernel_rfl) ?_
    refine st_p (vs := [v2, x0]) (by kernel_rfl) H fun v3 h H => ?_
    refine st_p (vs := [v1, v3]) (by kernel_rfl) H fun v4 h H => ?_
    refine st_m (v := (.bool true)) (by kernel_rfl) ?_
    refine st_nil ?_
    refine st_next ?_
    exact Eq.mp (by kernel_rfl) H
  · refine st_seq ?_
    refine st_ops ?_
    refine st_m (v := x0) (by kernel_rfl) ?_
    refine st_p (vs := [x0, (vi 1)]) (by kernel_rfl) H fun v6 h H => ?_
    refine st_m (v := v6) (by kernel_rfl) ?_
    refine st_gm (v := x0) (gv := v6) (by kernel_rfl) (by kernel_rfl) H fun v7 h H => ?_
    refine st_gp (vs := [v7, (vi 34)]) (gv := v6) (by kernel_rfl) (by kernel_rfl) H fun v8 h H => ?_
    refine st_p (vs := [v6, (.bool true), v8]) (by kernel_rfl) H fun v9 h H => ?_
    refine st_nil ?_
    refine st_next ?_
    refine st_cond (v := v9) (by kernel_rfl) H (fun H => ?_) (fun H => ?_)
    · refine st_seq ?_
      refine st_ops ?_
      refine st_p (vs := []) (by kernel_rfl) H fun v10 h H => ?_
      refine st_p (vs := [v1, v10]) (by kernel_rfl) H fun v11 h H => ?_
      refine st_m (v := (.bool false)) (by kernel_rfl) ?_
      refine st_nil ?_
      refine st_next ?_
      exact Eq.mp (by kernel_rfl) H
    · refine st_skip ?_
      exact Eq.mp (by kernel_rfl) (And.intro (Eq.refl (⟨[], .off⟩ : DS)) (And.intro (And.intro (Eq.refl (x0 : Value)) (And.intro (Eq.refl (v1 : Value)) trivial)) H))
def core_forms_F (w0 : World) (E R : Value → W)  : W :=
  pr (.alloc 182 [(bs []), (vi 0), (vi 0), (vi 0), (vi 0), (vi 0), (vi 0), (.bool false), (.bool false), (bs []), (vi 0), (vi 0), (vi 0), (vi 0), (vi 0), (vi 0), (.bool false), (.bool false), (bs []), (vi 0), (vi 0), (vi 0), (vi 0), (vi 0), (vi 0), (.bool false), (.bool false), (bs []), (vi 0), (vi 0), (vi 0), (vi 0), (vi 0), (vi 0), (.bool false), (.bool false), (bs []), (vi 0), (vi 0), (vi 0), (vi 0), (vi 0), (vi 0), (.bool false), (.bool false), (bs []), (vi 0), (vi 0), (vi 0), (vi 0), (vi 0), (vi 0), (.bool false), (.bool false), (bs []), (vi 0), (vi 0), (vi 0), (vi 0), (vi 0), (vi 0), (.bool false), (.bool false), (bs []), (vi 0), (vi 0), (vi 0), (vi 0), (vi 0), (vi 0), (.bool false), (.bool false), (bs []), (vi 0), (vi 0), (vi 0), (vi 0), (vi 0), (vi 0), (.bool false), (.bool false), (bs []), (vi 0), (vi 0), (vi 0), (vi 0), (vi 0), (vi 0), (.bool false), (.bool false), (bs []), (vi 0), (vi 0), (vi 0), (vi 0), (vi 0), (vi 0), (.bool false), (.bool false), (bs []), (vi 0), (vi 0), (vi 0), (vi 0), (vi 0), (vi 0), (.bool false), (.bool false), (bs []), (vi 0), (vi 0), (vi 0), (vi 0), (vi 0), (vi 0), (.bool false), (.bool false), (bs []), (vi 0), (vi 0), (vi 0), (vi 0), (vi 0), (vi 0), (.bool false), (.bool false), (bs []), (vi 0), (vi 0), (vi 0), (vi 0), (vi 0), (vi 0), (.bool false), (.bool false), (bs []), (vi 0), (vi 0), (vi 0), (vi 0), (vi 0), (vi 0), (.bool false), (.bool false), (bs []), (vi 0), (vi 0), (vi 0), (vi 0), (vi 0), (vi 0), (.bool false), (.bool false), (bs []), (vi 0), (vi 0), (vi 0), (vi 0), (vi 0), (vi 0), (.bool false), (.bool false), (bs []), (vi 0), (vi 0), (vi 0), (vi 0), (vi 0), (vi 0), (.bool false), (.bool false), (bs []), (vi 0), (vi 0), (vi 0), (vi 0), (vi 0), (vi 0), (.bool false), (.bool false), (bs []), (vi 0), (vi 0), (vi 0), (vi 0), (vi 0), (vi 0), (.bool false), (.bool false), (bs []), (vi 0), (vi 0), (vi 0), (vi 0), (vi 0), (vi 0), (.bool false), (.bool false), (bs []), (vi 0), (vi 0), (vi 0), (vi 0), (vi 0), (vi 0), (.bool false), (.bool false), (bs []), (vi 0), (vi 0), (vi 0), (vi 0), (vi 0), (vi 0), (.bool false), (.bool false), (bs []), (vi 0), (vi 0), (vi 0), (vi 0), (vi 0), (vi 0), (.bool false), (.bool false), (bs []), (vi 0), (vi 0), (vi 0), (vi 0), (vi 0), (vi 0), (.bool false), (.bool false), (bs []), (vi 0), (vi 0), (vi 0), (vi 0), (vi 0), (vi 0), (.bool false), (.bool false), (bs []), (vi 0), (vi 0), (vi 0), (vi 0), (vi 0), (vi 0), (.bool false), (.bool false), (bs []), (vi 0), (vi 0), (vi 0), (vi 0), (vi 0), (vi 0), (.bool false), (.bool false), (bs []), (vi 0), (vi 0), (vi 0), (vi 0), (vi 0), (vi 0), (.bool false), (.bool false), (bs []), (vi 0), (vi 0), (vi 0), (vi 0), (vi 0), (vi 0), (.bool false), (.bool false), (bs []), (vi 0), (vi 0), (vi 0), (vi 0), (vi 0), (vi 0), (.bool false), (.bool false), (bs []), (vi 0), (vi 0), (vi 0), (vi 0), (vi 0), (vi 0), (.bool false), (.bool false), (bs []), (vi 0), (vi 0), (vi 0), (vi 0), (vi 0), (vi 0), (.bool false), (.bool false), (bs []), (vi 0), (vi 0), (vi 0), (vi 0), (vi 0), (vi 0), (.bool false), (.bool false)]) [] fun v1 =>
  pr (.buildAll [1, 1, 1]) [(vi 1), (vi 4), (vi 0)] fun v2 =>
  pr (.build [(vi 0), (vi 0)] []) [] fun v3 =>
  pr (.buildAll [1, 3, 1, 2, 1, 1]) [(bs [105, 110, 116]), v2, (vi 1), v3, (.bool false), (.bool false)] fun v4 =>
  pr (.buildAll [1, 1, 1]) [(vi 1), (vi 5), (vi 0)] fun v5 =>
  pr (.build [(vi 0), (vi 0)] []) [] fun v6 =>
  pr (.buildAll [1, 3, 1, 2, 1, 1]) [(bs [98, 111, 111, 108]), v5, (vi 1), v6, (.bool false), (.bool false)] fun v7 =>
  pr (.buildAll [1, 1, 1]) [(vi 1), (vi 0), (vi 0)] fun v8 =>
  pr (.build [(vi 0), (vi 0)] []) [] fun v9 =>
  pr (.buildAll [1, 3, 1, 2, 1, 1]) [(bs [118, 111, 105, 100]), v8, (vi 1), v9, (.bool false), (.bool false)] fun v10 =>
  pr (.buildAll [1, 1, 1]) [(vi 1), (vi 1), (vi 0)] fun v11 =>
  pr (.build [(vi 0), (vi 0)] [(0,1)]) [(vi 2)] fun v12 =>
  pr (.buildAll [1, 3, 1, 2, 1, 1]) [(bs [109, 111, 118, 101]), v11, (vi 1), v12, (.bool false), (.bool false)] fun v13 =>
  pr (.buildAll [1, 1, 1]) [(vi 1), (vi 0), (vi 0)] fun v14 =>
  pr (.build [(vi 0), (vi 0)] []) [] fun v15 =>
  pr (.buildAll [1, 3, 1, 2, 1, 1]) [(bs [115, 101, 108, 102]), v14, (vi 1), v15, (.bool false), (.bool false)] fun v16 =>
  pr (.buildAll [1, 1, 1]) [(vi 1), (vi 1), (vi 1)] fun v17 =>
  pr (.buildAll [1, 1]) [(vi 2), (vi 3)] fun v18 =>
  pr (.buildAll [1, 3, 1, 2, 1, 1]) [(bs [97, 100, 100]), v17, (vi 1), v18, (.bool true), (.bool false)] fun v19 =>
  pr (.buildAll [1, 1, 1]) [(vi 1), (vi 1), (vi 1)] fun v20 =>
  pr (.buildAll [1, 1]) [(vi 2), (vi 3)] fun v21 =>
  pr (.buildAll [1, 3, 1, 2, 1, 1]) [(bs [115, 117, 98]), v20, (vi 1), v21, (.bool true), (.bool false)] fun v22 =>
  pr (.buildAll [1, 1, 1]) [(vi 1), (vi 1), (vi 1)] fun v23 =>
  pr (.buildAll [1, 1]) [(vi 2), (vi 3)] fun v24 =>
  pr (.buildAll [1, 3, 1, 2, 1, 1]) [(bs [109, 117, 108]), v23, (vi 1), v24, (.bool true), (.bool false)] fun v25 =>
  pr (.buildAll [1, 1, 1]) [(vi 1), (vi 1), (vi 1)] fun v26 =>
  pr (.buildAll [1, 1]) [(vi 2), (vi 3)] fun v27 =>
  pr (.buildAll [1, 3, 1, 2, 1, 1]) [(bs [100, 105, 118]), v26, (vi 1), v27, (.bool true), (.bool false)] fun v28 =>
  pr (.buildAll [1, 1, 1]) [(vi 1), (vi 1), (vi 1)] fun v29 =>
  pr (.buildAll [1, 1]) [(vi 2), (vi 3)] fun v30 =>
  pr (.buildAll [1, 3, 1, 2, 1, 1]) [(bs [109, 111, 100]), v29, (vi 1), v30, (.bool true), (.bool false)] fun v31 =>
  pr (.buildAll [1, 1, 1]) [(vi 1), (vi 1), (vi 0)] fun v32 =>
  pr (.build [(vi 0), (vi 0)] [(0,1)]) [(vi 2)] fun v33 =>
  pr (.buildAll [1, 3, 1, 2, 1, 1]) [(bs [110, 101, 103]), v32, (vi 1), v33, (.bool false), (.bool false)] fun v34 =>
  pr (.buildAll [1, 1, 1]) [(vi 1), (vi 1), (vi 1)] fun v35 =>
  pr (.buildAll [1, 1]) [(vi 2), (vi 3)] fun v36 =>
  pr (.buildAll [1, 3, 1, 2, 1, 1]) [(bs [101, 113]), v35, (vi 1), v36, (.bool false), (.bool false)] fun v37 =>
  pr (.buildAll [1, 1, 1]) [(vi 1), (vi 1), (vi 1)] fun v38 =>
  pr (.buildAll [1, 1]) [(vi 2), (vi 3)] fun v39 =>
  pr (.buildAll [1, 3, 1, 2, 1, 1]) [(bs [108, 101, 115, 115]), v38, (vi 1), v39, (.bool false), (.bool false)] fun v40 =>
  pr (.buildAll [1, 1, 1]) [(vi 1), (vi 1), (vi 1)] fun v41 =>
  pr (.buildAll [1, 1]) [(vi 2), (vi 3)] fun v42 =>
  pr (.buildAll [1, 3, 1, 2, 1, 1]) [(bs [109, 111, 115, 116]), v41, (vi 1), v42, (.bool false), (.bool false)] fun v43 =>
  pr (.buildAll [1, 1, 1]) [(vi 1), (vi 1), (vi 0)] fun v44 =>
  pr (.build [(vi 0), (vi 0)] [(0,1)]) [(vi 2)] fun v45 =>
  pr (.buildAll [1, 3, 1, 2, 1, 1]) [(bs [110, 111, 116]), v44, (vi 1), v45, (.bool false), (.bool false)] fun v46 =>
  pr (.buildAll [1, 1, 1]) [(vi 1), (vi 1), (vi 0)] fun v47 =>
  pr (.build [(vi 0), (vi 0)] [(0,1)]) [(vi 2)] fun v48 =>
  pr (.buildAll [1, 3, 1, 2, 1, 1]) [(bs [104, 97, 115]), v47, (vi 1), v48, (.bool false), (.bool false)] fun v49 =>
  pr (.buildAll [1, 1, 1]) [(vi 1), (vi 2), (vi 7)] fun v50 =>
  pr (.build [(vi 0), (vi 0)] [(0,1)]) [(vi 2)] fun v51 =>
  pr (.buildAll [1, 3, 1, 2, 1, 1]) [(bs [103, 101, 116]), v50, (vi 1), v51, (.bool true), (.bool false)] fun v52 =>
  pr (.buildAll [1, 1, 1]) [(vi 7), (vi 1), (vi 0)] fun v53 =>
  pr (.build [(vi 0), (vi 0)] [(0,1)]) [(vi 2)] fun v54 =>
  pr (.buildAll [1, 3, 1, 2, 1, 1]) [(bs [115, 101, 116]), v53, (vi 0), v54, (.bool false), (.bool false)] fun v55 =>
  pr (.buildAll [1, 1, 1]) [(vi 6), (vi 1), (vi 0)] fun v56 =>
  pr (.build [(vi 0), (vi 0)] [(0,1)]) [(vi 2)] fun v57 =>
  pr (.buildAll [1, 3, 1, 2, 1, 1]) [(bs [97, 114, 103]), v56, (vi 0), v57, (.bool false), (.bool false)] fun v58 =>
  pr (.buildAll [1, 1, 1]) [(vi 2), (vi 2), (vi 8)] fun v59 =>
  pr (.build [(vi 0), (vi 0)] [(0,1)]) [(vi 2)] fun v60 =>
  pr (.buildAll [1, 3, 1, 2, 1, 1]) [(bs [99, 97, 108, 108]), v59, (vi 1), v60, (.bool true), (.bool false)] fun v61 =>
  pr (.buildAll [1, 1, 1]) [(vi 1), (vi 10), (vi 5)] fun v62 =>
  pr (.build [(vi 0), (vi 0)] []) [] fun v63 =>
  pr (.buildAll [1, 3, 1, 2, 1, 1]) [(bs [110, 101, 119]), v62, (vi 1), v63, (.bool true), (.bool false)] fun v64 =>
  pr (.buildAll [1, 1, 1]) [(vi 1), (vi 9), (vi 0)] fun v65 =>
  pr (.build [(vi 0), (vi 0)] [(0,1)]) [(vi 1)] fun v66 =>
  pr (.buildAll [1, 3, 1, 2, 1, 1]) [(bs [109, 97, 107, 101]), v65, (vi 0), v66, (.bool true), (.bool false)] fun v67 =>
  pr (.buildAll [1, 1, 1]) [(vi 2), (vi 0), (vi 0)] fun v68 =>
  pr (.build [(vi 0), (vi 0)] [(0,1)]) [(vi 1)] fun v69 =>
  pr (.buildAll [1, 3, 1, 2, 1, 1]) [(bs [105, 110, 118]), v68, (vi 0), v69, (.bool true), (.bool false)] fun v70 =>
  pr (.buildAll [1, 1, 1]) [(vi 3), (vi 0), (vi 0)] fun v71 =>
  pr (.build [(vi 0), (vi 0)] []) [] fun v72 =>
  pr (.buildAll [1, 3, 1, 2, 1, 1]) [(bs [106, 117, 109, 112]), v71, (vi 0), v72, (.bool false), (.bool true)] fun v73 =>
  pr (.buildAll [1, 1, 1]) [(vi 1), (vi 3), (vi 0)] fun v74 =>
  pr (.build [(vi 0), (vi 0)] [(0,1)]) [(vi 1)] fun v75 =>
  pr (.buildAll [1, 3, 1, 2, 1, 1]) [(bs [102, 97, 108, 115, 101]), v74, (vi 0), v75, (.bool false), (.bool false)] fun v76 =>
  pr (.buildAll [1, 1, 1]) [(vi 11), (vi 0), (vi 0)] fun v77 =>
  pr (.build [(vi 0), (vi 0)] []) [] fun v78 =>
  pr (.buildAll [1, 3, 1, 2, 1, 1]) [(bs [114, 97, 105, 115, 101]), v77, (vi 0), v78, (.bool true), (.bool true)] fun v79 =>
  pr (.buildAll [1, 1, 1]) [(vi 0), (vi 0), (vi 0)] fun v80 =>
  pr (.build [(vi 0), (vi 0)] []) [] fun v81 =>
  pr (.buildAll [1, 3, 1, 2, 1, 1]) [(bs [102, 97, 105, 108]), v80, (vi 0), v81, (.bool true), (.bool true)] fun v82 =>
  pr (.buildAll [1, 1, 1]) [(vi 2), (vi 0), (vi 0)] fun v83 =>
  pr (.build [(vi 0), (vi 0)] [(0,1)]) [(vi 1)] fun v84 =>
  pr (.buildAll [1, 3, 1, 2, 1, 1]) [(bs [114, 101, 116]), v83, (vi 0), v84, (.bool false), (.bool true)] fun v85 =>
  pr (.buildAll [1, 1, 1]) [(vi 1), (vi 0), (vi 0)] fun v86 =>
  pr (.build [(vi 0), (vi 0)] [(0,1)]) [(vi 1)] fun v87 =>
  pr (.buildAll [1, 3, 1, 2, 1, 1]) [(bs [112, 117, 116]), v86, (vi 0), v87, (.bool false), (.bool false)] fun v88 =>
  pr (.buildAll [1, 1, 1]) [(vi 1), (vi 0), (vi 0)] fun v89 =>
  pr (.build [(vi 0), (vi 0)] [(0,1)]) [(vi 1)] fun v90 =>
  pr (.buildAll [1, 3, 1, 2, 1, 1]) [(bs [101, 110, 116, 101, 114]), v89, (vi 0), v90, (.bool true), (.bool false)] fun v91 =>
  pr (.buildAll [1, 1, 1]) [(vi 0), (vi 0), (vi 0)] fun v92 =>
  pr (.build [(vi 0), (vi 0)] []) [] fun v93 =>
  pr (.buildAll [1, 3, 1, 2, 1, 1]) [(bs [108, 101, 97, 118, 101]), v92, (vi 0), v93, (.bool false), (.bool false)] fun v94 =>
  pr (.buildAll [1, 1, 1]) [(vi 1), (vi 3), (vi 0)] fun v95 =>
  pr (.build [(vi 0), (vi 0)] [(0,1)]) [(vi 1)] fun v96 =>
  pr (.buildAll [1, 3, 1, 2, 1, 1]) [(bs [97, 103, 97, 105, 110]), v95, (vi 0), v96, (.bool true), (.bool false)] fun v97 =>
  pr (.buildAll [1, 1, 1]) [(vi 1), (vi 12), (vi 0)] fun v98 =>
  pr (.build [(vi 0), (vi 0)] []) [] fun v99 =>
  pr (.buildAll [1, 3, 1, 2, 1, 1]) [(bs [108, 111, 97, 100]), v98, (vi 1), v99, (.bool false), (.bool false)] fun v100 =>
  pr (.buildAll [1, 1, 1]) [(vi 12), (vi 1), (vi 0)] fun v101 =>
  pr (.build [(vi 0), (vi 0)] [(0,1)]) [(vi 2)] fun v102 =>
  pr (.buildAll [1, 3, 1, 2, 1, 1]) [(bs [115, 116, 111, 114, 101]), v101, (vi 0), v102, (.bool false), (.bool false)] fun v103 =>
  pr (.build [(bs []), (vi 0), (vi 0), (vi 0), (vi 0), (vi 0), (vi 0), (.bool false), (.bool false), (bs []), (vi 0), (vi 0), (vi 0), (vi 0), (vi 0), (vi 0), (.bool false), (.bool false), (bs []), (vi 0), (vi 0), (vi 0), (vi 0), (vi 0), (vi 0), (.bool false), (.bool false), (bs []), (vi 0), (vi 0), (vi 0), (vi 0), (vi 0), (vi 0), (.bool false), (.bool false), (bs []), (vi 0), (vi 0), (vi 0), (vi 0), (vi 0), (vi 0), (.bool false), (.bool false), (bs []), (vi 0), (vi 0), (vi 0), (vi 0), (vi 0), (vi 0), (.bool false), (.bool false), (bs []), (vi 0), (vi 0), (vi 0), (vi 0), (vi 0), (vi 0), (.bool false), (.bool false), (bs []), (vi 0), (vi 0), (vi 0), (vi 0), (vi 0), (vi 0), (.bool false), (.bool false), (bs []), (vi 0), (vi 0), (vi 0), (vi 0), (vi 0), (vi 0), (.bool false), (.bool false), (bs []), (vi 0), (vi 0), (vi 0), (vi 0), (vi 0), (vi 0), (.bool false), (.bool false), (bs []), (vi 0), (vi 0), (vi 0), (vi 0), (vi 0), (vi 0), (.bool false), (.bool false), (bs []), (vi 0), (vi 0), (vi 0), (vi 0), (vi 0), (vi 0), (.bool false), (.bool false), (bs []), (vi 0), (vi 0), (vi 0), (vi 0), (vi 0), (vi 0), (.bool false), (.bool false), (bs []), (vi 0), (vi 0), (vi 0), (vi 0), (vi 0), (vi 0), (.bool false), (.bool false), (bs []), (vi 0), (vi 0), (vi 0), (vi 0), (vi 0), (vi 0), (.bool false), (.bool false), (bs []), (vi 0), (vi 0), (vi 0), (vi 0), (vi 0), (vi 0), (.bool false), (.bool false), (bs []), (vi 0), (vi 0), (vi 0), (vi 0), (vi 0), (vi 0), (.bool false), (.bool false), (bs []), (vi 0), (vi 0), (vi 0), (vi 0), (vi 0), (vi 0), (.bool false), (.bool false), (bs []), (vi 0), (vi 0), (vi 0), (vi 0), (vi 0), (vi 0), (.bool false), (.bool false), (bs []), (vi 0), (vi 0), (vi 0), (vi 0), (vi 0), (vi 0), (.bool false), (.bool false), (bs []), (vi 0), (vi 0), (vi 0), (vi 0), (vi 0), (vi 0), (.bool false), (.bool false), (bs []), (vi 0), (vi 0), (vi 0), (vi 0), (vi 0), (vi 0), (.bool false), (.bool false), (bs []), (vi 0), (vi 0), (vi 0), (vi 0), (vi 0), (vi 0), (.bool false), (.bool false), (bs []), (vi 0), (vi 0), (vi 0), (vi 0), (vi 0), (vi 0), (.bool false), (.bool false), (bs []), (vi 0), (vi 0), (vi 0), (vi 0), (vi 0), (vi 0), (.bool false), (.bool false), (bs []), (vi 0), (vi 0), (vi 0), (vi 0), (vi 0), (vi 0), (.bool false), (.bool false), (bs []), (vi 0), (vi 0), (vi 0), (vi 0), (vi 0), (vi 0), (.bool false), (.bool false), (bs []), (vi 0), (vi 0), (vi 0), (vi 0), (vi 0), (vi 0), (.bool false), (.bool false), (bs []), (vi 0), (vi 0), (vi 0), (vi 0), (vi 0), (vi 0), (.bool false), (.bool false), (bs []), (vi 0), (vi 0), (vi 0), (vi 0), (vi 0), (vi 0), (.bool false), (.bool false), (bs []), (vi 0), (vi 0), (vi 0), (vi 0), (vi 0), (vi 0), (.bool false), (.bool false), (bs []), (vi 0), (vi 0), (vi 0), (vi 0), (vi 0), (vi 0), (.bool false), (.bool false), (bs []), (vi 0), (vi 0), (vi 0), (vi 0), (vi 0), (vi 0), (.bool false), (.bool false), (bs []), (vi 0), (vi 0), (vi 0), (vi 0), (vi 0), (vi 0), (.bool false), (.bool false), (bs []), (vi 0), (vi 0), (vi 0), (vi 0), (vi 0), (vi 0), (.bool false), (.bool false)] [(9,9), (18,9), (27,9), (36,9), (45,9), (54,9), (63,9), (72,9), (81,9), (90,9), (99,9), (108,9), (117,9), (126,9), (135,9), (144,9), (153,9), (162,9), (171,9), (180,9), (189,9), (198,9), (207,9), (216,9), (225,9), (234,9), (243,9), (252,9), (261,9), (270,9), (279,9), (288,9), (297,9), (306,9)]) [v4, v7, v10, v13, v16, v19, v22, v25, v28, v31, v34, v37, v40, v43, v46, v49, v52, v55, v58, v61, v64, v67, v70, v73, v76, v79, v82, v85, v88, v91, v94, v97, v100, v103] fun v104 =>
  pr (.store 315) [v1, v104] fun v105 =>
  ld (.loadN 315) [v1] fun v106 =>
  R v106
theorem core_forms_wp {w0 : World} {h : AH} {Q : CR → AH → Prop}  (H : core_forms_F w0 (fun v h => Q (.pan v) h) (fun v h => Q (.ret v) h)  h) : WF PP w0 id_core_forms [] h Q := by
  let E : Value → W := fun v h => Q (.pan v) h
  let R : Value → W := fun v h => Q (.ret v) h
  refine WF_enter hmix e120 ?_
  refine st_seq ?_
  refine st_ops ?_
  refine st_p (vs := []) (by kernel_rfl) H fun v1 h H => ?_
  refine st_nil ?_
  refine st_next ?_
  refine st_seq ?_
  refine st_ops ?_
  refine st_p (vs := [(vi 1), (vi 4), (vi 0)]) (by kernel_rfl) H fun v2 h H => ?_
  refine st_p (vs := []) (by kernel_rfl) H fun v3 h H => ?_
  refine st_p (vs := [(bs [105, 110, 116]), v2, (vi 1), v3, (.bool false), (.bool false)]) (by kernel_rfl) H fun v4 h H => ?_
  refine st_p (vs := [(vi 1), (vi 5), (vi 0)]) (by kernel_rfl) H fun v5 h H => ?_
  refine st_p (vs := []) (by kernel_rfl) H fun v6 h H => ?_
  refine st_p (vs := [(bs [98, 111, 111, 108]), v5, (vi 1), v6, (.bool false), (.bool false)]) (by kernel_rfl) H fun v7 h H => ?_
  refine st_p (vs := [(vi 1), (vi 0), (vi 0)]) (by kernel_rfl) H fun v8 h H => ?_
  refine st_p (vs := []) (by kernel_rfl) H fun v9 h H => ?_
  refine st_p (vs := [(bs [118, 111, 105, 100]), v8, (vi 1), v9, (.bool false), (.bool false)]) (by kernel_rfl) H fun v10 h H => ?_
  refine st_p (vs := [(vi 1), (vi 1), (vi 0)]) (by kernel_rfl) H fun v11 h H => ?_
  refine st_p (vs := [(vi 2)]) (by kernel_rfl) H fun v12 h H => ?_
  refine st_p (vs := [(bs [109, 111, 118, 101]), v11, (vi 1), v12, (.bool false), (.bool false)]) (by kernel_rfl) H fun v13 h H => ?_
  refine st_p (vs := [(vi 1), (vi 0), (vi 0)]) (by kernel_rfl) H fun v14 h H => ?_
  refine st_p (vs := []) (by kernel_rfl) H fun v15 h H => ?_
  refine st_p (vs := [(bs [115, 101, 108, 102]), v14, (vi 1), v15, (.bool false), (.bool false)]) (by kernel_rfl) H fun v16 h H => ?_
  refine st_p (vs := [(vi 1), (vi 1), (vi 1)]) (by kernel_rfl) H fun v17 h H => ?_
  refine st_p (vs := [(vi 2), (vi 3)]) (by kernel_rfl) H fun v18 h H => ?_
  refine st_p (vs := [(bs [97, 100, 100]), v17, (vi 1), v18, (.bool true), (.bool false)]) (by kernel_rfl) H fun v19 h H => ?_
  refine st_p (vs := [(vi 1), (vi 1), (vi 1)]) (by kernel_rfl) H fun v20 h H => ?_
  refine st_p (vs := [(vi 2), (vi 3)]) (by kernel_rfl) H fun v21 h H => ?_
  refine st_p (vs := [(bs [115, 117, 98]), v20, (vi 1), v21, (.bool true), (.bool false)]) (by kernel_rfl) H fun v22 h H => ?_
  refine st_p (vs := [(vi 1), (vi 1), (vi 1)]) (by kernel_rfl) H fun v23 h H => ?_
  refine st_p (vs := [(vi 2), (vi 3)]) (by kernel_rfl) H fun v24 h H => ?_
  refine st_p (vs := [(bs [109, 117, 108]), v23, (vi 1), v24, (.bool true), (.bool false)]) (by kernel_rfl) H fun v25 h H => ?_
  refine st_p (vs := [(vi 1), (vi 1), (vi 1)]) (by kernel_rfl) H fun v26 h H => ?_
  refine st_p (vs := [(vi 2), (vi 3)]) (by kernel_rfl) H fun v27 h H => ?_
  refine st_p (vs := [(bs [100, 105, 118]), v26, (vi 1), v27, (.bool true), (.bool false)]) (by kernel_rfl) H fun v28 h H => ?_
  refine st_p (vs := [(vi 1), (vi 1), (vi 1)]) (by kernel_rfl) H fun v29 h H => ?_
  refine st_p (vs := [(vi 2), (vi 3)]) (by kernel_rfl) H fun v30 h H => ?_
  refine st_p (vs := [(bs [109, 111, 100]), v29, (vi 1), v30, (.bool true), (.bool false)]) (by kernel_rfl) H fun v31 h H => ?_
  refine st_p (vs := [(vi 1), (vi 1), (vi 0)]) (by kernel_rfl) H fun v32 h H => ?_
  refine st_p (vs := [(vi 2)]) (by kernel_rfl) H fun v33 h H => ?_
  refine st_p (vs := [(bs [110, 101, 103]), v32, (vi 1), v33, (.bool false), (.bool false)]) (by kernel_rfl) H fun v34 h H => ?_
  refine st_p (vs := [(vi 1), (vi 1), (vi 1)]) (by kernel_rfl) H fun v35 h H => ?_
  refine st_p (vs := [(vi 2), (vi 3)]) (by kernel_rfl) H fun v36 h H => ?_
  refine st_p (vs := [(bs [101, 113]), v35, (vi 1), v36, (.bool false), (.bool false)]) (by kernel_rfl) H fun v37 h H => ?_
  refine st_p (vs := [(vi 1), (vi 1), (vi 1)]) (by kernel_rfl) H fun v38 h H => ?_
  refine st_p (vs := [(vi 2), (vi 3)]) (by kernel_rfl) H fun v39 h H => ?_
  refine st_p (vs := [(bs [108, 101, 115, 115]), v38, (vi 1), v39, (.bool false), (.bool false)]) (by kernel_rfl) H fun v40 h H => ?_
  refine st_p (vs := [(vi 1), (vi 1), (vi 1)]) (by kernel_rfl) H fun v41 h H => ?_
  refine st_p (vs := [(vi 2), (vi 3)]) (by kernel_rfl) H fun v42 h H => ?_
  refine st_p (vs := [(bs [109, 111, 115, 116]), v41, (vi 1), v42, (.bool false), (.bool false)]) (by kernel_rfl) H fun v43 h H => ?_
  refine st_p (vs := [(vi 1), (vi 1), (vi 0)]) (by kernel_rfl) H fun v44 h H => ?_
  refine st_p (vs := [(vi 2)]) (by kernel_rfl) H fun v45 h H => ?_
  refine st_p (vs := [(bs [110, 111, 116]), v44, (vi 1), v45, (.bool false), (.bool false)]) (by kernel_rfl) H fun v46 h H => ?_
  refine st_p (vs := [(vi 1), (vi 1), (vi 0)]) (by kernel_rfl) H fun v47 h H => ?_
  refine st_p (vs := [(vi 2)]) (by kernel_rfl) H fun v48 h H => ?_
  refine st_p (vs := [(bs [104, 97, 115]), v47, (vi 1), v48, (.bool false), (.bool false)]) (by kernel_rfl) H fun v49 h H => ?_
  refine st_p (vs := [(vi 1), (vi 2), (vi 7)]) (by kernel_rfl) H fun v50 h H => ?_
  refine st_p (vs := [(vi 2)]) (by kernel_rfl) H fun v51 h H => ?_
  refine st_p (vs := [(bs [103, 101, 116]), v50, (vi 1), v51, (.bool true), (.bool false)]) (by kernel_rfl) H fun v52 h H => ?_
  refine st_p (vs := [(vi 7), (vi 1), (vi 0)]) (by kernel_rfl) H fun v53 h H => ?_
  refine st_p (vs := [(vi 2)]) (by kernel_rfl) H fun v54 h H => ?_
  refine st_p (vs := [(bs [115, 101, 116]), v53, (vi 0), v54, (.bool false), (.bool false)]) (by kernel_rfl) H fun v55 h H => ?_
  refine st_p (vs := [(vi 6), (vi 1), (vi 0)]) (by kernel_rfl) H fun v56 h H => ?_
  refine st_p (vs := [(vi 2)]) (by kernel_rfl) H fun v57 h H => ?_
  refine st_p (vs := [(bs [97, 114, 103]), v56, (vi 0), v57, (.bool false), (.bool false)]) (by kernel_rfl) H fun v58 h H => ?_
  refine st_p (vs := [(vi 2), (vi 2), (vi 8)]) (by kernel_rfl) H fun v59 h H => ?_
  refine st_p (vs := [(vi 2)]) (by kernel_rfl) H fun v60 h H => ?_
  refine st_p (vs := [(bs [99, 97, 108, 108]), v59, (vi 1), v60, (.bool true), (.bool false)]) (by kernel_rfl) H fun v61 h H => ?_
  refine st_p (vs := [(vi 1), (vi 10), (vi 5)]) (by kernel_rfl) H fun v62 h H => ?_
  refine st_p (vs := []) (by kernel_rfl) H fun v63 h H => ?_
  refine st_p (vs := [(bs [110, 101, 119]), v62, (vi 1), v63, (.bool true), (.bool false)]) (by kernel_rfl) H fun v64 h H => ?_
  refine st_p (vs := [(vi 1), (vi 9), (vi 0)]) (by kernel_rfl) H fun v65 h H => ?_
  refine st_p (vs := [(vi 1)]) (by kernel_rfl) H fun v66 h H => ?_
  refine st_p (vs := [(bs [109, 97, 107, 101]), v65, (vi 0), v66, (.bool true), (.bool false)]) (by kernel_rfl) H fun v67 h H => ?_
  refine st_p (vs := [(vi 2), (vi 0), (vi 0)]) (by kernel_rfl) H fun v68 h H => ?_
  refine st_p (vs := [(vi 1)]) (by kernel_rfl) H fun v69 h H => ?_
  refine st_p (vs := [(bs [105, 110, 118]), v68, (vi 0), v69, (.bool true), (.bool false)]) (by kernel_rfl) H fun v70 h H => ?_
  refine st_p (vs := [(vi 3), (vi 0), (vi 0)]) (by kernel_rfl) H fun v71 h H => ?_
  refine st_p (vs := []) (by kernel_rfl) H fun v72 h H => ?_
  refine st_p (vs := [(bs [106, 117, 109, 112]), v71, (vi 0), v72, (.bool false), (.bool true)]) (by kernel_rfl) H fun v73 h H => ?_
  refine st_p (vs := [(vi 1), (vi 3), (vi 0)]) (by kernel_rfl) H fun v74 h H => ?_
  refine st_p (vs := [(vi 1)]) (by kernel_rfl) H fun v75 h H => ?_
  refine st_p (vs := [(bs [102, 97, 108, 115, 101]), v74, (vi 0), v75, (.bool false), (.bool false)]) (by kernel_rfl) H fun v76 h H => ?_
  refine st_p (vs := [(vi 11), (vi 0), (vi 0)]) (by kernel_rfl) H fun v77 h H => ?_
  refine st_p (vs := []) (by kernel_rfl) H fun v78 h H => ?_
  refine st_p (vs := [(bs [114, 97, 105, 115, 101]), v77, (vi 0), v78, (.bool true), (.bool true)]) (by kernel_rfl) H fun v79 h H => ?_
  refine st_p (vs := [(vi 0), (vi 0), (vi 0)]) (by kernel_rfl) H fun v80 h H => ?_
  refine st_p (vs := []) (by kernel_rfl) H fun v81 h H => ?_
  refine st_p (vs := [(bs [102, 97, 105, 108]), v80, (vi 0), v81, (.bool true), (.bool true)]) (by kernel_rfl) H fun v82 h H => ?_
  refine st_p (vs := [(vi 2), (vi 0), (vi 0)]) (by kernel_rfl) H fun v83 h H => ?_
  refine st_p (vs := [(vi 1)]) (by kernel_rfl) H fun v84 h H => ?_
  refine st_p (vs := [(bs [114, 101, 116]), v83, (vi 0), v84, (.bool false), (.bool true)]) (by kernel_rfl) H fun v85 h H => ?_
  refine st_p (vs := [(vi 1), (vi 0), (vi 0)]) (by kernel_rfl) H fun v86 h H => ?_
  refine st_p (vs := [(vi 1)]) (by kernel_rfl) H fun v87 h H => ?_
  refine st_p (vs := [(bs [112, 117, 116]), v86, (vi 0), v87, (.bool false), (.bool false)]) (by kernel_rfl) H fun v88 h H => ?_
  refine st_p (vs := [(vi 1), (vi 0), (vi 0)]) (by kernel_rfl) H fun v89 h H => ?_
  refine st_p (vs := [(vi 1)]) (by kernel_rfl) H fun v90 h H => ?_
  refine st_p (vs := [(bs [101, 110, 116, 101, 114]), v89, (vi 0), v90, (.bool true), (.bool false)]) (by kernel_rfl) H fun v91 h H => ?_
  refine st_p (vs := [(vi 0), (vi 0), (vi 0)]) (by kernel_rfl) H fun v92 h H => ?_
  refine st_p (vs := []) (by kernel_rfl) H fun v93 h H => ?_
  refine st_p (vs := [(bs [108, 101, 97, 118, 101]), v92, (vi 0), v93, (.bool false), (.bool false)]) (by kernel_rfl) H fun v94 h H => ?_
  refine st_p (vs := [(vi 1), (vi 3), (vi 0)]) (by kernel_rfl) H fun v95 h H => ?_
  refine st_p (vs := [(vi 1)]) (by kernel_rfl) H fun v96 h H => ?_
  refine st_p (vs := [(bs [97, 103, 97, 105, 110]), v95, (vi 0), v96, (.bool true), (.bool false)]) (by kernel_rfl) H fun v97 h H => ?_
  refine st_p (vs := [(vi 1), (vi 12), (vi 0)]) (by kernel_rfl) H fun v98 h H => ?_
  refine st_p (vs := []) (by kernel_rfl) H fun v99 h H => ?_
  refine st_p (vs := [(bs [108, 111, 97, 100]), v98, (vi 1), v99, (.bool false), (.bool false)]) (by kernel_rfl) H fun v100 h H => ?_
  refine st_p (vs := [(vi 12), (vi 1), (vi 0)]) (by kernel_rfl) H fun v101 h H => ?_
  refine st_p (vs := [(vi 2)]) (by kernel_rfl) H fun v102 h H => ?_
  refine st_p (vs := [(bs [115, 116, 111, 114, 101]), v101, (vi 0), v102, (.bool false), (.bool false)]) (by kernel_rfl) H fun v103 h H => ?_
  refine st_p (vs := [v4, v7, v10, v13, v16, v19, v22, v25, v28, v31, v34, v37, v40, v43, v46, v49, v52, v55, v58, v61, v64, v67, v70, v73, v76, v79, v82, v85, v88, v91, v94, v97, v100, v103]) (by kernel_rfl) H fun v104 h H => ?_
  refine st_p (vs := [v1, v104]) (by kernel_rfl) H fun v105 h H => ?_
  refine st_nil ?_
  refine st_next ?_
  exact Eq.mp (by kernel_rfl) H
end
end Go.Ve.T
