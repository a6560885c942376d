/- Part 14: Data that is handed in, as the plain laws take it.. No condition. And more. -/
import Derived.Test.YteeibihhdldjfaaGreatDoorVeM
set_option linter.unusedVariables false
set_option linter.unusedSimpArgs false
namespace Go.Ve.T
open Go.Ve Go.Proofs Go.ChangeShapes Go.WideShapes Go.ChangeAt Go.RowKit
section
variable {H:Type}{h:AH}
abbrev lk (h:AH) (t:TypeId) (cs:ZZE) (d:DataW H):Prop:=AD PP h t cs d
theorem azf {α}(R:ZZE→α→Prop)(Pr:α→Prop):∀ls:List (ZZE),(∀y∈ls,∃x,R y x∧Pr x)→∃l,aw R ls l∧∀x∈l,Pr x:=by
 intro ls
 induction ls with
 | nil=>intro _;exact⟨[],aw.nil,fun x hx=>by cases hx⟩
 | cons y ls ih=>
  intro hh;obtain⟨x,h1,h2⟩:=hh y zai;obtain⟨l,h3,h4⟩:=ih fun z hz=>hh z (zaj _ hz)
  refine⟨x::l,⟨by rw [zaE,zaE,h3.1],fun i a c ha hc=>?_⟩,fun z hz=>?_⟩
  · cases i with
    | zero=>simp at ha hc;rw [←ha,←hc];exact h1
    | succ i=>exact h3.2 i a c (by simpa using ha) (by simpa using hc)
  · rcases List.mem_cons.1 hz with h | h
    · rw [h];exact h2
    · exact h4 z h
theorem azg {t:TypeId}{cs:ZZE}{d:DataW H}(hu:PP.underlying t=some (.int .i64))(A:lk h t cs d):∃n,rI .i64 h cs n∧-9223372036854775808≤n:=by
 cases A with
 | int t k n bP hw=>
  rw [hu]at bP;cases bP;refine⟨n,rfl,?_⟩
  have:IntKind.i64.min≤n∧n≤IntKind.i64.max:=by
   simpa [Lit.wf]using hw
  have e:IntKind.i64.min= -9223372036854775808:=by decide
  omega
 | bool _ _ bP=>rw [hu]at bP;cases bP
 | str _ _ bP=>rw [hu]at bP;cases bP
 | qW _ _ bP=>rw [hu]at bP;cases bP
 | sl _ _ _ _ _ _ _ _ _ bP=>rw [hu]at bP;cases bP
 | struct _ _ _ _ bP=>rw [hu]at bP;cases bP
 | arr _ _ _ _ _ bP=>rw [hu]at bP;cases bP
theorem azh {t:TypeId}{cs:ZZE}{d:DataW H}(hu:PP.underlying t=some .bool)(A:lk h t cs d):∃b,cs=[.bool b]:=by
 cases A with
 | bool t b bP=>exact⟨b,rfl⟩
 | int _ _ _ bP=>rw [hu]at bP;cases bP
 | str _ _ bP=>rw [hu]at bP;cases bP
 | qW _ _ bP=>rw [hu]at bP;cases bP
 | sl _ _ _ _ _ _ _ _ _ bP=>rw [hu]at bP;cases bP
 | struct _ _ _ _ bP=>rw [hu]at bP;cases bP
 | arr _ _ _ _ _ bP=>rw [hu]at bP;cases bP
theorem azi {t:TypeId}{cs:ZZE}{d:DataW H}(hu:PP.underlying t=some .string)(A:lk h t cs d):∃s,cs=[.string s]:=by
 cases A with
 | str t s bP=>exact⟨s,rfl⟩
 | bool _ _ bP=>rw [hu]at bP;cases bP
 | int _ _ _ bP=>rw [hu]at bP;cases bP
 | qW _ _ bP=>rw [hu]at bP;cases bP
 | sl _ _ _ _ _ _ _ _ _ bP=>rw [hu]at bP;cases bP
 | struct _ _ _ _ bP=>rw [hu]at bP;cases bP
 | arr _ _ _ _ _ bP=>rw [hu]at bP;cases bP
theorem IN {α:Type}{rep:iW α}{sz:Nat}{t e:TypeId}{cs:ZZE}{d:DataW H}(hu:PP.underlying t=some (.slice e))(hz:PP.cellsOf e=sz)(Pr:α→Prop)(el:∀cs d,lk (H:=H) h e cs d→∃x,rep h cs x∧Pr x)(A:lk h t cs d):∃v l,cs=[v]∧aa rep sz h v l∧∀x∈l,Pr x:=by
 cases A with
 | qW t e' bP=>exact⟨_,[],rfl,aa.nil,fun x hx=>by cases hx⟩
 | sl t e' b o n cap kU rest eZ bP hn hc lO hl oe hr he=>
  rw [hu]at bP;cases bP
  obtain⟨l,h1,h2⟩:=azf (rep h) Pr eZ fun y hy=>by
   obtain⟨i,hi⟩:=zaV hy;have cy:i<kU.length:=by rw [hn,←hl];exact(List.getElem?_eq_some_iff.1 hi).1
   exact el y _ (he i y _ hi (zab cy))
  refine⟨_,l,rfl,⟨eZ,.mk b o n cap eZ hl.symm ⟨?_,.inl ⟨hc,?_⟩⟩ (fun x hx=>by rw [←hz];exact oe x hx) hr,h1⟩,h2⟩
  · have:maxLen<bQ:=by decide
    omega
  · have:maxLen<bQ:=by decide
    omega
 | bool _ _ bP=>rw [hu]at bP;cases bP
 | int _ _ _ bP=>rw [hu]at bP;cases bP
 | str _ _ bP=>rw [hu]at bP;cases bP
 | struct _ _ _ _ bP=>rw [hu]at bP;cases bP
 | arr _ _ _ _ _ bP=>rw [hu]at bP;cases bP
theorem FP {t:TypeId}{fs:Array Field}{cs:ZZE}{d:DataW H}(hu:PP.underlying t=some (.struct fs))(A:lk h t cs d):cs.length=PP.cellsOf t∧∀(i:Nat) (f:Field),fs[i]? =some f→∃d',lk (H:=H) h f.type ((cs.drop f.offset).take (PP.cellsOf f.type)) d':=by
 cases A with
 | struct t fs' cs ds bP hl hd he=>
  rw [hu]at bP;cases bP;refine⟨hl,fun i f hf=>?_⟩;have cy:i<ds.length:=by rw [hd];exact(Array.getElem?_eq_some_iff.1 hf).1
  exact⟨_,he i f _ hf (zab cy)⟩
 | bool _ _ bP=>rw [hu]at bP;cases bP
 | int _ _ _ bP=>rw [hu]at bP;cases bP
 | str _ _ bP=>rw [hu]at bP;cases bP
 | qW _ _ bP=>rw [hu]at bP;cases bP
 | sl _ _ _ _ _ _ _ _ _ bP=>rw [hu]at bP;cases bP
 | arr _ _ _ _ _ bP=>rw [hu]at bP;cases bP
theorem kv {k z o:Nat}{cs:ZZE}{d:DataW H}(hz:PP.cellsOf k=z)(A:lk h k ((cs.drop o).take (PP.cellsOf k)) d):lk h k ((cs.drop o).take z) d:=hz▸A
theorem ant:PP.cellsOf 25=7:=by kernel_rfl
theorem MI:PP.cellsOf 9=1:=by kernel_rfl
theorem MJ {cs:ZZE}{d:DataW H}(A:lk h 9 cs d):∃x,rS h cs x∧True:=by
 obtain⟨b,rfl⟩:=azi Tryz.underlying9 A;exact⟨b,rfl,trivial⟩
theorem sy:PP.cellsOf 3=1:=by kernel_rfl
theorem sA {cs:ZZE}{d:DataW H}(A:lk h 3 cs d):∃x,rI .i64 h cs x∧-9223372036854775808≤x:=azg Tryz.underlying3 A
theorem azj:PP.cellsOf 22=1:=by kernel_rfl
theorem anu:PP.cellsOf 67=4:=by kernel_rfl
theorem ad1 {α:Type}{l:List α}(h:l.length=4):∃c0 c1 c2 c3,l=[c0,c1,c2,c3]:=by
 match l,h with
 | [c0,c1,c2,c3],_=>exact⟨c0,c1,c2,c3,rfl⟩
theorem azk {cs:ZZE}{d:DataW H}(A:lk h 67 cs d):∃x,ah.rep h cs x∧(-9223372036854775808≤x.aJ)∧(-9223372036854775808≤x.fA)∧(-9223372036854775808≤x.fB)∧(-9223372036854775808≤x.fC):=by
 obtain⟨hl,hf⟩:=FP Tryz.underlying67 A;obtain⟨_,A0⟩:=hf 0 _ rfl;obtain⟨x0,e0,p0⟩:=sA (kv sy A0);obtain⟨_,A1⟩:=hf 1 _ rfl;obtain⟨x1,e1,p1⟩:=sA (kv sy A1);obtain⟨_,A2⟩:=hf 2 _ rfl;obtain⟨x2,e2,p2⟩:=sA (kv sy A2);obtain⟨_,A3⟩:=hf 3 _ rfl;obtain⟨x3,e3,p3⟩:=sA (kv sy A3);rw [anu]at hl;obtain⟨c0,c1,c2,c3,rfl⟩:=ad1 hl;cases e0;cases e1;cases e2;cases e3;exact⟨⟨x0,x1,x2,x3⟩,rfl,⟨p0,p1,p2,p3⟩⟩
theorem azl {cs:ZZE}{d:DataW H}(A:lk h 22 cs d):∃x,(rL ah.rep 4) h cs x∧∀eI∈x,(-9223372036854775808≤eI.aJ)∧(-9223372036854775808≤eI.fA)∧(-9223372036854775808≤eI.fB)∧(-9223372036854775808≤eI.fC):=by
 obtain⟨v,l,e,f,p⟩:=IN (rep:=ah.rep) Tryz.underlying22 anu (fun y=>(-9223372036854775808≤y.aJ)∧(-9223372036854775808≤y.fA)∧(-9223372036854775808≤y.fB)∧(-9223372036854775808≤y.fC)) (fun cs d A=>azk A) A;exact⟨l,⟨v,e,f⟩,p⟩
theorem azm:PP.cellsOf 23=1:=by kernel_rfl
theorem anv:PP.cellsOf 79=3:=by kernel_rfl
theorem azn {α:Type}{l:List α}(h:l.length=3):∃c0 c1 c2,l=[c0,c1,c2]:=by
 match l,h with
 | [c0,c1,c2],_=>exact⟨c0,c1,c2,rfl⟩
theorem azo {cs:ZZE}{d:DataW H}(A:lk h 79 cs d):∃x,al.rep h cs x∧(-9223372036854775808≤x.dk)∧(-9223372036854775808≤x.dO)∧(-9223372036854775808≤x.bG):=by
 obtain⟨hl,hf⟩:=FP Tryz.underlying79 A;obtain⟨_,A0⟩:=hf 0 _ rfl;obtain⟨x0,e0,p0⟩:=sA (kv sy A0);obtain⟨_,A1⟩:=hf 1 _ rfl;obtain⟨x1,e1,p1⟩:=sA (kv sy A1);obtain⟨_,A2⟩:=hf 2 _ rfl;obtain⟨x2,e2,p2⟩:=sA (kv sy A2);rw [anv]at hl;obtain⟨c0,c1,c2,rfl⟩:=azn hl;cases e0;cases e1;cases e2;exact⟨⟨x0,x1,x2⟩,rfl,⟨p0,p1,p2⟩⟩
theorem azp {cs:ZZE}{d:DataW H}(A:lk h 23 cs d):∃x,(rL al.rep 3) h cs x∧∀pa∈x,(-9223372036854775808≤pa.dk)∧(-9223372036854775808≤pa.dO)∧(-9223372036854775808≤pa.bG):=by
 obtain⟨v,l,e,f,p⟩:=IN (rep:=al.rep) Tryz.underlying23 anv (fun y=>(-9223372036854775808≤y.dk)∧(-9223372036854775808≤y.dO)∧(-9223372036854775808≤y.bG)) (fun cs d A=>azo A) A;exact⟨l,⟨v,e,f⟩,p⟩
theorem azq {α:Type}{l:List α}(h:l.length=7):∃c0 c1 c2 c3 c4 c5 c6,l=[c0,c1,c2,c3,c4,c5,c6]:=by
 match l,h with
 | [c0,c1,c2,c3,c4,c5,c6],_=>exact⟨c0,c1,c2,c3,c4,c5,c6,rfl⟩
theorem azr {cs:ZZE}{d:DataW H}(A:lk h 25 cs d):∃x,ae.rep h cs x∧(-9223372036854775808≤x.fArgs)∧(-9223372036854775808≤x.aE)∧(-9223372036854775808≤x.aD)∧(∀eI∈x.ab,(-9223372036854775808≤eI.aJ)∧(-9223372036854775808≤eI.fA)∧(-9223372036854775808≤eI.fB)∧(-9223372036854775808≤eI.fC))∧(∀pa∈x.aI,(-9223372036854775808≤pa.dk)∧(-9223372036854775808≤pa.dO)∧(-9223372036854775808≤pa.bG)):=by
 obtain⟨hl,hf⟩:=FP Tryz.underlying25 A;obtain⟨_,A0⟩:=hf 0 _ rfl;obtain⟨x0,e0,p0⟩:=MJ (kv MI A0);obtain⟨_,A1⟩:=hf 1 _ rfl;obtain⟨x1,e1,p1⟩:=MJ (kv MI A1);obtain⟨_,A2⟩:=hf 2 _ rfl;obtain⟨x2,e2,p2⟩:=sA (kv sy A2);obtain⟨_,A3⟩:=hf 3 _ rfl;obtain⟨x3,e3,p3⟩:=sA (kv sy A3);obtain⟨_,A4⟩:=hf 4 _ rfl;obtain⟨x4,e4,p4⟩:=sA (kv sy A4);obtain⟨_,A5⟩:=hf 5 _ rfl;obtain⟨x5,e5,p5⟩:=azl (kv azj A5);obtain⟨_,A6⟩:=hf 6 _ rfl;obtain⟨x6,e6,p6⟩:=azp (kv azm A6);rw [ant]at hl;obtain⟨w5,e5,f5⟩:=e5;obtain⟨w6,e6,f6⟩:=e6;obtain⟨c0,c1,c2,c3,c4,c5,c6,rfl⟩:=azq hl;cases e0;cases e1;cases e2;cases e3;cases e4;cases e5;cases e6;exact⟨⟨x0,x1,x2,x3,x4,x5,x6⟩,⟨w5,w6,rfl,f5,f6⟩,⟨p2,p3,p4,p5,p6⟩⟩
theorem sz4:PP.cellsOf 4=1:=by kernel_rfl
theorem azs {cs:ZZE}{d:DataW H}(A:lk h 4 cs d):∃x,rB h cs x∧True:=by
 obtain⟨b,rfl⟩:=azh Tryz.underlying4 A;exact⟨b,rfl,trivial⟩
theorem anw:PP.cellsOf 28=1:=by kernel_rfl
theorem anx {cs:ZZE}{d:DataW H}(A:lk h 28 cs d):∃x,(rL (rI .i64) 1) h cs x∧∀qx∈x,-9223372036854775808≤qx:=by
 obtain⟨v,l,e,f,p⟩:=IN (rep:=(rI .i64)) Tryz.underlying28 sy (fun y=> -9223372036854775808≤y) (fun cs d A=>sA A) A;exact⟨l,⟨v,e,f⟩,p⟩
theorem azt:PP.cellsOf 51=5:=by kernel_rfl
theorem anz:PP.cellsOf 47=1:=by kernel_rfl
theorem anA:PP.cellsOf 110=4:=by kernel_rfl
theorem azu {cs:ZZE}{d:DataW H}(A:lk h 110 cs d):∃x,aZ.rep h cs x∧(∀qx∈x.kV,-9223372036854775808≤qx)∧(∀qx∈x.gh,-9223372036854775808≤qx)∧(-9223372036854775808≤x.kW):=by
 obtain⟨hl,hf⟩:=FP Tryz.underlying110 A;obtain⟨_,A0⟩:=hf 0 _ rfl;obtain⟨x0,e0,p0⟩:=MJ (kv MI A0);obtain⟨_,A1⟩:=hf 1 _ rfl;obtain⟨x1,e1,p1⟩:=anx (kv anw A1);obtain⟨_,A2⟩:=hf 2 _ rfl;obtain⟨x2,e2,p2⟩:=anx (kv anw A2);obtain⟨_,A3⟩:=hf 3 _ rfl;obtain⟨x3,e3,p3⟩:=sA (kv sy A3);rw [anA]at hl;obtain⟨w1,e1,f1⟩:=e1;obtain⟨w2,e2,f2⟩:=e2;obtain⟨c0,c1,c2,c3,rfl⟩:=ad1 hl;cases e0;cases e1;cases e2;cases e3;exact⟨⟨x0,x1,x2,x3⟩,⟨w1,w2,rfl,f1,f2⟩,⟨p1,p2,p3⟩⟩
theorem azv {cs:ZZE}{d:DataW H}(A:lk h 47 cs d):∃x,(rL aZ.rep 4) h cs x∧∀dI∈x,(∀qx∈dI.kV,-9223372036854775808≤qx)∧(∀qx∈dI.gh,-9223372036854775808≤qx)∧(-9223372036854775808≤dI.kW):=by
 obtain⟨v,l,e,f,p⟩:=IN (rep:=aZ.rep) Tryz.underlying47 anA (fun y=>(∀qx∈y.kV,-9223372036854775808≤qx)∧(∀qx∈y.gh,-9223372036854775808≤qx)∧(-9223372036854775808≤y.kW)) (fun cs d A=>azu A) A;exact⟨l,⟨v,e,f⟩,p⟩
theorem azw:PP.cellsOf 48=1:=by kernel_rfl
theorem anB:PP.cellsOf 119=4:=by kernel_rfl
theorem azx {cs:ZZE}{d:DataW H}(A:lk h 119 cs d):∃x,bD.rep h cs x∧(-9223372036854775808≤x.fArgs):=by
 obtain⟨hl,hf⟩:=FP Tryz.underlying119 A;obtain⟨_,A0⟩:=hf 0 _ rfl;obtain⟨x0,e0,p0⟩:=MJ (kv MI A0);obtain⟨_,A1⟩:=hf 1 _ rfl;obtain⟨x1,e1,p1⟩:=MJ (kv MI A1);obtain⟨_,A2⟩:=hf 2 _ rfl;obtain⟨x2,e2,p2⟩:=sA (kv sy A2);obtain⟨_,A3⟩:=hf 3 _ rfl;obtain⟨x3,e3,p3⟩:=azs (kv sz4 A3);rw [anB]at hl;obtain⟨c0,c1,c2,c3,rfl⟩:=ad1 hl;cases e0;cases e1;cases e2;cases e3;exact⟨⟨x0,x1,x2,x3⟩,rfl,p2⟩
theorem azy {cs:ZZE}{d:DataW H}(A:lk h 48 cs d):∃x,(rL bD.rep 4) h cs x∧∀n6∈x,(-9223372036854775808≤n6.fArgs):=by
 obtain⟨v,l,e,f,p⟩:=IN (rep:=bD.rep) Tryz.underlying48 anB (fun y=>(-9223372036854775808≤y.fArgs)) (fun cs d A=>azx A) A;exact⟨l,⟨v,e,f⟩,p⟩
theorem anC:PP.cellsOf 49=1:=by kernel_rfl
theorem azz {cs:ZZE}{d:DataW H}(A:lk h 49 cs d):∃x,(rL ae.rep 7) h cs x∧∀eW∈x,(-9223372036854775808≤eW.fArgs)∧(-9223372036854775808≤eW.aE)∧(-9223372036854775808≤eW.aD)∧(∀eI∈eW.ab,(-9223372036854775808≤eI.aJ)∧(-9223372036854775808≤eI.fA)∧(-9223372036854775808≤eI.fB)∧(-9223372036854775808≤eI.fC))∧(∀pa∈eW.aI,(-9223372036854775808≤pa.dk)∧(-9223372036854775808≤pa.dO)∧(-9223372036854775808≤pa.bG)):=by
 obtain⟨v,l,e,f,p⟩:=IN (rep:=ae.rep) Tryz.underlying49 ant (fun y=>(-9223372036854775808≤y.fArgs)∧(-9223372036854775808≤y.aE)∧(-9223372036854775808≤y.aD)∧(∀eI∈y.ab,(-9223372036854775808≤eI.aJ)∧(-9223372036854775808≤eI.fA)∧(-9223372036854775808≤eI.fB)∧(-9223372036854775808≤eI.fC))∧(∀pa∈y.aI,(-9223372036854775808≤pa.dk)∧(-9223372036854775808≤pa.dO)∧(-9223372036854775808≤pa.bG))) (fun cs d A=>azr A) A;exact⟨l,⟨v,e,f⟩,p⟩
theorem azA {α:Type}{l:List α}(h:l.length=5):∃c0 c1 c2 c3 c4,l=[c0,c1,c2,c3,c4]:=by
 match l,h with
 | [c0,c1,c2,c3,c4],_=>exact⟨c0,c1,c2,c3,c4,rfl⟩
theorem aum {cs:ZZE}{d:DataW H}(A:lk h 51 cs d):∃x,aO.rep h cs x∧(∀dI∈x.bE,(∀qx∈dI.kV,-9223372036854775808≤qx)∧(∀qx∈dI.gh,-9223372036854775808≤qx)∧(-9223372036854775808≤dI.kW))∧(∀n6∈x.bw,(-9223372036854775808≤n6.fArgs))∧(∀eW∈x.bp,(-9223372036854775808≤eW.fArgs)∧(-9223372036854775808≤eW.aE)∧(-9223372036854775808≤eW.aD)∧(∀eI∈eW.ab,(-9223372036854775808≤eI.aJ)∧(-9223372036854775808≤eI.fA)∧(-9223372036854775808≤eI.fB)∧(-9223372036854775808≤eI.fC))∧(∀pa∈eW.aI,(-9223372036854775808≤pa.dk)∧(-9223372036854775808≤pa.dO)∧(-9223372036854775808≤pa.bG)))∧(-9223372036854775808≤x.bo)∧(-9223372036854775808≤x.bn):=by
 obtain⟨hl,hf⟩:=FP Tryz.underlying51 A;obtain⟨_,A0⟩:=hf 0 _ rfl;obtain⟨x0,e0,p0⟩:=azv (kv anz A0);obtain⟨_,A1⟩:=hf 1 _ rfl;obtain⟨x1,e1,p1⟩:=azy (kv azw A1);obtain⟨_,A2⟩:=hf 2 _ rfl;obtain⟨x2,e2,p2⟩:=azz (kv anC A2);obtain⟨_,A3⟩:=hf 3 _ rfl;obtain⟨x3,e3,p3⟩:=sA (kv sy A3);obtain⟨_,A4⟩:=hf 4 _ rfl;obtain⟨x4,e4,p4⟩:=sA (kv sy A4);rw [azt]at hl;obtain⟨w0,e0,f0⟩:=e0;obtain⟨w1,e1,f1⟩:=e1;obtain⟨w2,e2,f2⟩:=e2;obtain⟨c0,c1,c2,c3,c4,rfl⟩:=azA hl;cases e0;cases e1;cases e2;cases e3;cases e4;exact⟨⟨x0,x1,x2,x3,x4⟩,⟨w0,w1,w2,rfl,f0,f1,f2⟩,⟨p0,p1,p2,p3,p4⟩⟩
end
section
variable {H:Type}{enc:TypeId×Value→H}
theorem aul:FK PP 10 51=true:=by kernel_rfl
theorem auk {W t v d ps}(hp:FK PP 10 t=true)(ht:DataW.Trod enc PP W 0 (fun _=>true) true t v d ps){φ:aY}{h:AH}(R:HR PP W φ h W):
 ∃φ' h' cs,HR PP W φ' h' W∧Go.Ve.Ext h.nx φ φ'∧eK h h'∧LR φ' cs v.cells.toList∧lk h' t cs d:=by
 obtain⟨fuel,hf⟩:=ht;exact ayH 10 t _ _ fuel hp hf φ h R
end
theorem asq {g sz v ls}(H:jJ g sz v ls):∀{a:Option Addr}{n c:Nat},v= .slice a n c→ls.length=n:=by
 intro a n c e;cases H with
 | nil=>
  injection e with e1 e2 e3
 | mk b o n' cap ls hn hc hs hr=>
  injection e with e1 e2 e3
  omega
theorem asr {H:Type}{h g:AH}{t e:TypeId}{v:Z}{d:DataW H}{α:Type}{rep:iW α}{sz:Nat}{l:List α}(hu:PP.underlying t=some (.slice e))(A:lk h t [v] d)(F:aa rep sz g v l):l.length<9223372036854775808:=by
 obtain⟨ls,S,A2⟩:=F;have el:=A2.1;generalize hc:[v]=cs at A;cases A with
 | qW t e' bP=>
  injection hc with hv _
  have:=asq S hv;omega
 | sl t e' b o n cap kU rest eZ bP hn vY lO hl oe hr he=>
  injection hc with hv _
  have:=asq S hv;have:maxLen<9223372036854775808:=by decide
  omega
 | bool _ _ bP=>rw [hu]at bP;cases bP
 | int _ _ _ bP=>rw [hu]at bP;cases bP
 | str _ _ bP=>rw [hu]at bP;cases bP
 | struct _ _ _ _ bP=>rw [hu]at bP;cases bP
 | arr _ _ _ _ _ bP=>rw [hu]at bP;cases bP
theorem aiY {H:Type}{h g:AH}{w1 w2 w3 a b:Z}{d:DataW H}{α β:Type}{r1:iW α}{r3:iW β}{s1 s3:Nat}{l1:List α}{l3:List β}(A:lk h 51 [w1,w2,w3,a,b] d)(f1:aa r1 s1 g w1 l1)(f3:aa r3 s3 g w3 l3):l1.length<9223372036854775808∧l3.length<9223372036854775808:=by
 obtain⟨hl,hf⟩:=FP Tryz.underlying51 A;obtain⟨_,A0⟩:=hf 0 _ rfl;obtain⟨_,A2⟩:=hf 2 _ rfl;exact⟨asr Tryz.underlying47 (kv anz A0) f1,asr Tryz.underlying49 (kv anC A2) f3⟩
end Go.Ve.T
