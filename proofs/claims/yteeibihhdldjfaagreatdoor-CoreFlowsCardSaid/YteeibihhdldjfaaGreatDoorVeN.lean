/- Part 14: VEval, part 35: functions that are known by a contract; closed calls that give constants. No condition. And what follows it. -/
import Derived.Test.YteeibihhdldjfaaGreatDoorVeM
import Derived.Lib.Join
import Derived.Lib.ItoaNum
import Derived.Lib.Atoi
set_option linter.unusedVariables false
set_option linter.unusedSimpArgs false
namespace Go.Ve
open Go.RowKit
theorem HR.behind {P:Program}{w0 w w':World}{φ:aO}{h:AH}(H:HR P w0 φ h w) (hb:Below w.heap.size w w'):HR P w0 φ h w':=by
 refine⟨H.inj,H.fresh,H.top,H.dead,fun f b d n hf=> ?_, ?_⟩
 · obtain⟨o,o',a1,a2,a3⟩:=H.obj f b d n hf
   exact⟨o,o',a1,by rw [hb.block b (Array.getElem?_eq_some_iff.1 a2).1];exact a2,a3⟩
 · have h1:=H.below
   exact⟨hb.os.trans h1.os,hb.tape.trans h1.tape,hb.output.trans h1.output,Nat.le_trans h1.size (Nat.le_trans (by simp) hb.size),fun k hk=>by rw [hb.block k (Nat.lt_of_lt_of_le hk h1.size)];exact h1.block k hk⟩
theorem FH {P:Program}{w0:World}{f:FuncId}{S:List Value→AH→(CR→AH→Bool)→Bool}(iz:Can P f)
 (hS:∀args h k φ args' w,S args h k=true→LR φ args args'.toList→HR P w0 φ h w→∃v c,VR φ v c∧k (.ret v) h=true∧Calls P f args' w fun E w'=>E= .returned c∧Below w.heap.size w w') :
 ∀(args:List Value) (h:AH) (k:CR→AH→Bool),S args h k=true→jk P w0 f args h k:=by
 intro args h k e
 refine⟨iz,fun φ args' w hl H=> ?_⟩
 obtain⟨v,c,h1,h2,h3⟩:=hS args h k φ args' w e hl H
 refine Calls.mono h3 fun E w' hE=> ?_
 exact⟨.ret v,h,φ,h2,Ext.refl _ _,Nat.le_refl _,H.behind hE.2,c,hE.1,h1⟩
def Cg:Value→Value→Bool
 | .bool a,.bool b=>bif a then b else !b
 | .int k a,.int l b=>gK k l&&mT a b
 | .string a,.string b=>lE a.data.toList b.data.toList
 | .nilIface,.nilIface=>true
 | _,_=>false
def Lu:List Value→List Value→Bool
 | [],[]=>true
 | a::l,b::m=>Cg a b&&Lu l m
 | _,_=>false
def Lv:Value→Value→Bool
 | .agg ⟨l⟩,.agg ⟨m⟩=>Lu l m
 | a,b=>Cg a b
def FI:List Value→List Value→Bool
 | [],[]=>true
 | a::l,b::m=>Lv a b&&FI l m
 | _,_=>false
def zx:Value→Value→Bool
 | .agg ⟨l⟩,.agg ⟨m⟩=>FI l m
 | .tuple ⟨l⟩,.tuple ⟨m⟩=>FI l m
 | a,b=>Cg a b
def Plain (a b:Value):Prop:=∀φ,VR φ a b∧∀v,VR φ a v→v=b
def uT (l m:List Value):Prop:=∀φ,LR φ l m∧∀l',LR φ l l'→l'=m
theorem uT.nil:uT [] []:=fun φ=>⟨.nil,fun l' h=>by cases h;rfl⟩
theorem uT.cons {a b:Value}{l m:List Value}(h:Plain a b) (hl:uT l m):uT (a::l) (b::m):=fun φ =>
 ⟨.cons _ _ _ _ (h φ).1 (hl φ).1,fun l' h'=>by
  cases h' with | cons _ v _ l2 h1 h2=>rw [(h φ).2 v h1,(hl φ).2 l2 h2]⟩
theorem acX:∀{a b:List UInt8},lE a b=true→a=b
 | [],[],_=>rfl
 | x::l,y::m,h=>by
  have h':(bif Nat.beq x.toNat y.toNat then lE l m else false)=true:=h
  cases hx:Nat.beq x.toNat y.toNat with
  | false=>rw [hx]at h';cases h'
  | true =>
   rw [hx,cond_true]at h'
   rw [acX h',UInt8.toNat_inj.1 (Nat.eq_of_beq_eq_true hx)]
 | [],_::_,h=>by cases h
 | _::_,[],h=>by cases h
theorem TX {a b:Value}(h:Cg a b=true):Plain a b:=by
 unfold Cg at h
 split at h
 · rename_i a b
   have:a=b:=by cases a<;>cases b<;>simp_all
   subst this
   exact fun φ=>⟨.bool _,fun v hv=>hv.sv⟩
 · rename_i k a l b
   rw [Bool.and_eq_true]at h
   obtain rfl:=o5 h.1
   obtain rfl:a=b:=by have:=h.2;rw [ur]at this;simpa using this
   exact fun φ=>⟨.int _ _,fun v hv=>hv.iZ⟩
 · rename_i a b
   have h1:=acX h
   have:a=b:=by
    apply ByteArray.ext
    exact Array.toList_inj.1 h1
   subst this
   exact fun φ=>⟨.str _,fun v hv=>hv.kV⟩
 · exact fun φ=>⟨.BG,fun v hv=>by cases hv;rfl⟩
 · cases h
theorem acY:∀{l m:List Value},Lu l m=true→uT l m
 | [],[],_=>.nil
 | a::l,b::m,h=>by
  have h':(Cg a b&&Lu l m)=true:=h
  rw [Bool.and_eq_true]at h'
  exact .cons (TX h'.1) (acY h'.2)
 | [],_::_,h=>by cases h
 | _::_,[],h=>by cases h
theorem Plain.agg {l m:List Value}(h:uT l m):Plain (.agg ⟨l⟩) (.agg ⟨m⟩):=fun φ=>⟨.agg _ _ (h φ).1,fun v hv=>by
 obtain⟨a',rfl,h'⟩:=hv.zy
 have:=(h φ).2 _ h'
 cases a';simp_all⟩
theorem Plain.iy {l m:List Value}(h:uT l m):Plain (.tuple ⟨l⟩) (.tuple ⟨m⟩):=fun φ=>⟨.iy _ _ (h φ).1,fun v hv=>by
 obtain⟨a',rfl,h'⟩:=hv.acZ
 have:=(h φ).2 _ h'
 cases a';simp_all⟩
theorem amb {a b:Value}(h:Lv a b=true):Plain a b:=by
 unfold Lv at h
 split at h
 · exact .agg (acY h)
 · exact TX h
theorem TY:∀{l m:List Value},FI l m=true→uT l m
 | [],[],_=>.nil
 | a::l,b::m,h=>by
  have h':(Lv a b&&FI l m)=true:=h
  rw [Bool.and_eq_true]at h'
  exact .cons (amb h'.1) (TY h'.2)
 | [],_::_,h=>by cases h
 | _::_,[],h=>by cases h
theorem FJ {a b:Value}(h:zx a b=true):Plain a b:=by
 unfold zx at h
 split at h
 · exact .agg (TY h)
 · exact .iy (TY h)
 · exact TX h
def TZ (c:Value) (r:CR) (_:AH):Bool:=CR.casesOn (motive:=fun _=>Bool) r (fun v=>zx v c) (fun _=>false)
theorem amc {P:Program}(bT:P.follows .mixedOrders=true){prog:NT jD}(q9:∀f af,prog.get f=some af→ct P f=some af){sums:uE}{w:World}(TD:KP P w sums){n:Nat}{f:FuncId}{args:List Value}{args':Array Value}{c:Value}
 (h:ev prog sums n (.call f args ⟨0,.e⟩ (TZ c))=true) (hl:LR (fun _=>none) args args'.toList):Can P f∧Calls P f args' w fun E w'=>E= .returned c∧Below w.heap.size w w':=by
 have hC:jk P w f args ⟨0,.e⟩ (TZ c):=aca bT q9 TD n _ h
 refine⟨hC.1,Calls.mono (hC.2 (fun _=>none) args' w hl (HR.bare P w)) fun E w' hR=> ?_⟩
 obtain⟨r,h',φ',h1,h2,h3,h4,h5⟩:=hR
 cases r with
 | aT v=>cases h1
 | ret v =>
  obtain⟨v',rfl,hv⟩:=h5
  exact⟨by rw [(FJ h1 φ').2 v' hv],h4.below⟩
end Go.Ve
namespace Go.Ve
open Go.RowKit
noncomputable section
def FK (f:Nat) (n:Nat) (acc:List UInt8) (k:List UInt8→Bool):Bool:=match f with
 | 0=>false
 | f+1=>bif Nat.ble 10 n then fN (Nat.div n 10) fun q=>FK f q (UInt8.ofNat (Nat.add 48 (Nat.mod n 10))::acc) k else k (UInt8.ofNat (Nat.add 48 n)::acc)
def ac0 (vs:List Value) (h:AH) (k:CR→AH→Bool):Bool:=a1 vs fun v=>lW v fun kd n=>iff (gK kd .i64) (match n with
 | .ofNat a=>iff (Nat.ble a 9223372036854775807) (FK 25 a [] fun l=>k (.ret (.string ⟨⟨l⟩⟩)) h)
 | .negSucc a=>iff (Nat.ble a 9223372036854775807) (fN (Nat.succ a) fun a=>FK 25 a [] fun l=>k (.ret (.string ⟨⟨45::l⟩⟩)) h))
def ac1 (vs:List Value) (h:AH) (k:CR→AH→Bool):Bool:=a1 vs fun v=>ku v fun s=>iff (Nat.ble s.data.toList.length 18) (match Go.Lib.atoi s.data.toList with
 | some n=>fI n fun n=>k (.ret (.tuple ⟨[.int .i64 n,.nilIface]⟩)) h
 | none=>false)
def Lw (sep:List UInt8):List Value→(List UInt8→Bool)→Bool
 | [],k=>k []
 | [v],k=>ku v fun s=>k s.data.toList
 | v::l,k=>ku v fun s=>Lw sep l fun m=>uK sep m fun m=>uK s.data.toList m k
def ac2 (vs:List Value) (h:AH) (k:CR→AH→Bool):Bool:=a2 vs fun v s=>ku s fun sep=>lX v false fun b o n c=>iff (Nat.ble 1 n&&Nat.ble n 65536) (lU h b o n fun l=>Lw sep.data.toList l fun m=>iff (Nat.ble m.length 1048576) (k (.ret (.string ⟨⟨m⟩⟩)) h))
theorem T0:∀(f n:Nat){acc:List UInt8}{k:List UInt8→Bool},FK f n acc k=true→k (Lib.decDigits n++acc)=true
 | 0,n,acc,k,h=>by cases h
 | f+1,n,acc,k,h=>by
  have h1:(bif Nat.ble 10 n then fN (Nat.div n 10) fun q=>FK f q (UInt8.ofNat (Nat.add 48 (Nat.mod n 10))::acc) k else k (UInt8.ofNat (Nat.add 48 n)::acc))=true:=h
  by_cases hn:10≤n
  · rw [show Nat.ble 10 n=true from Nat.ble_eq_true_of_le hn,cond_true,cz]at h1
    have h2:k (Lib.decDigits (n / 10)++(UInt8.ofNat (48+n % 10)::acc))=true:=T0 f _ h1
    rw [Lib.decDigits,dif_neg (by omega)]
    simpa using h2
  · rw [show Nat.ble 10 n=false by rw [wg];simpa using hn,cond_false]at h1
    rw [Lib.decDigits,dif_pos (by omega)]
    exact h1
theorem amd {P:Program}{w0:World}{f:FuncId}(iz:Can P f)
 (hI:∀(n:Int) (w:World),-9223372036854775808≤n→n≤9223372036854775807→Below w0.heap.size w0 w→Calls P f #[.int .i64 n] w fun e w'=>e= .returned (.string ⟨(Lib.itoa n).toArray⟩)∧Below w.heap.size w w') :
 ∀(args:List Value) (h:AH) (k:CR→AH→Bool),ac0 args h k=true→jk P w0 f args h k:=by
 refine FH iz fun args h k φ args' w e hl H=> ?_
 obtain⟨L,hL⟩:∃L,args'.toList=L:=⟨_,rfl⟩
 rw [hL]at hl
 obtain⟨v,rfl,e1⟩:=fy e
 obtain⟨kd,n,rfl,e2⟩:=og e1
 obtain⟨e3,e4⟩:=cI e2
 obtain rfl:=o5 e3
 have lx:args'= #[.int .i64 n]:=by
  cases hl with | cons _ v' _ l' h1 h2=>cases h2;apply Array.ext';rw [hL,h1.iZ]
 subst lx
 refine⟨.string ⟨(Lib.itoa n).toArray⟩,_,.str _, ?_,hI n w ?_ ?_ H.below⟩
 · cases n with
   | ofNat a =>
    obtain⟨e5,e6⟩:=cI e4
    have:=T0 _ _ e6
    rw [List.append_nil]at this
    rw [show Lib.itoa (Int.ofNat a)=Lib.decDigits a by unfold Lib.itoa;rw [if_neg (by have:=Int.natCast_nonneg a;exact Int.not_lt.2 this)];rfl]
    exact this
   | negSucc a =>
    obtain⟨e5,e6⟩:=cI e4
    rw [cz]at e6
    have:=T0 _ _ e6
    rw [List.append_nil]at this
    rw [show Lib.itoa (Int.negSucc a)=45::Lib.decDigits (a+1) by unfold Lib.itoa;rw [if_pos (by omega)];rfl]
    exact this
 · cases n with
   | ofNat a=>have:=Int.natCast_nonneg a;show-9223372036854775808≤(a:Int);omega
   | negSucc a=>have:=Nat.le_of_ble_eq_true (cI e4).1;omega
 · cases n with
   | ofNat a=>have:=Nat.le_of_ble_eq_true (cI e4).1;show(a:Int)≤9223372036854775807;omega
   | negSucc a=>omega
theorem ame {P:Program}{w0:World}{f:FuncId}(iz:Can P f)
 (hI:∀(s:ByteArray) (n:Int) (w:World),s.size≤18→Lib.atoi s.data.toList=some n→Calls P f #[.string s] w fun e w'=>e= .returned (.tuple #[.int .i64 n,.nilIface])∧Below w.heap.size w w') :
 ∀(args:List Value) (h:AH) (k:CR→AH→Bool),ac1 args h k=true→jk P w0 f args h k:=by
 refine FH iz fun args h k φ args' w e hl H=> ?_
 obtain⟨L,hL⟩:∃L,args'.toList=L:=⟨_,rfl⟩
 rw [hL]at hl
 obtain⟨v,rfl,e1⟩:=fy e
 obtain⟨s,rfl,e2⟩:=mf e1
 obtain⟨e3,e4⟩:=cI e2
 have lx:args'= #[.string s]:=by
  cases hl with | cons _ v' _ l' h1 h2=>cases h2;apply Array.ext';rw [hL,h1.kV]
 subst lx
 split at e4
 · rename_i n hn
   rw [ph]at e4
   exact⟨_,_,.iy ⟨[.int .i64 n,.nilIface]⟩ #[.int .i64 n,.nilIface] (.cons _ _ _ _ (.int _ _) (.cons _ _ _ _ .BG .nil)),e4,hI s n w (by have:=Nat.le_of_ble_eq_true e3;simpa using this) hn⟩
 · cases e4
theorem T1:∀(l m:List UInt8){k:List UInt8→Bool},uK l m k=true→k (l++m)=true
 | [],m,k,h=>h
 | x::l,m,k,h=>T1 l m (show uK l m (fun l'=>k (x::l'))=true from h)
theorem ac3 (sep:List UInt8):∀(l:List Value){k:List UInt8→Bool},Lw sep l k=true→∃xs:List ByteArray,l=xs.map .string∧k (Lib.join (xs.map (·.data.toList)) sep)=true
 | [],k,h=>⟨[],rfl,h⟩
 | [v],k,h=>by
  obtain⟨s,rfl,e⟩:=mf (show ku v _=true from h)
  exact⟨[s],rfl,by rw [List.map_cons,List.map_nil,Lib.join_one];exact e⟩
 | v::y::l,k,h=>by
  obtain⟨s,rfl,e⟩:=mf (show ku v (fun s=>Lw sep (y::l) fun m=>uK sep m fun m=>uK s.data.toList m k)=true from h)
  obtain⟨xs,h1,h2⟩:=ac3 sep (y::l) e
  have h3:=T1 _ _ (T1 _ _ h2)
  refine⟨s::xs,by rw [h1];rfl, ?_⟩
  rw [List.map_cons]
  cases xs with
  | nil=>cases h1
  | cons x r =>
   rw [List.map_cons,Lib.join_cons]at h3
   rw [List.map_cons,Lib.join_cons]
   simpa [Lib.joinTail]using h3
theorem amf {P:Program}{w0:World}{f:FuncId}(iz:Can P f)
 (hJ:∀(bk o c:Nat) (xs:List ByteArray) (sep:ByteArray) (w:World),(∀(j:Nat) x,xs[j]? =some x→w.cell? ⟨bk,o+j,none⟩=some (.string x))→bk<w.heap.size→xs.length≤140737488355328→xs.length≤c→(Lib.join (xs.map (·.data.toList)) sep.data.toList).length≤140737488355328→
  Calls P f #[.slice (some ⟨bk,o,none⟩) xs.length c,.string sep] w fun e w'=>e= .returned (.string ⟨(Lib.join (xs.map (·.data.toList)) sep.data.toList).toArray⟩)∧Below w.heap.size w w') :
 ∀(args:List Value) (h:AH) (k:CR→AH→Bool),ac2 args h k=true→jk P w0 f args h k:=by
 refine FH iz fun args h k φ args' w e hl H=> ?_
 obtain⟨L,hL⟩:∃L,args'.toList=L:=⟨_,rfl⟩
 rw [hL]at hl
 obtain⟨v,s,rfl,e1⟩:=ji e
 obtain⟨sep,rfl,e2⟩:=mf e1
 rcases qU e2 with⟨l0,c0,_,e3⟩ | ⟨a,len,cap,rfl,e3⟩
 · cases e3
 obtain⟨e4,e5⟩:=cI e3
 simp only [Bool.and_eq_true]at e4
 have hn1:=Nat.le_of_ble_eq_true e4.1
 have BQ:=Nat.le_of_ble_eq_true e4.2
 obtain⟨lo,hi,ty,oh,cc,l,g1,g2,g3,g4,g5,g6⟩:=wh e5
 obtain⟨xs,rfl,e6⟩:=ac3 _ _ g6
 obtain⟨e7,e8⟩:=cI e6
 have e7:=Nat.le_of_ble_eq_true e7
 cases hl with
 | cons _ v1 _ l1 h1 h2 =>
  cases h2 with
  | cons _ v2 _ l2 h3 h4 =>
   cases h4
   obtain⟨a',c',rfl,hs,jE⟩:=h1.pW
   obtain rfl:=h3.kV
   have dH:AtR φ a a'∧len≤c':=by
    rcases jE with⟨_,h2,h3,h4⟩ | ⟨_,_,_,h3,h4⟩
    · exact⟨h4 (by omega),by omega⟩
    · exact⟨(h4 (by omega)).1,h3⟩
   rw [List.length_map]at g4
   obtain⟨b,d,arr,fr,p1,p2,p3,p4,p5,p6,p7,p8⟩:=H.at hs dH.1 g1
   have T2:a'=⟨b,a'.off,none⟩:=by cases a';simp_all
   have lx:args'= #[.slice (some ⟨b,a'.off,none⟩) xs.length c',.string sep]:=by apply Array.ext';rw [hL,g4,←T2]
   subst lx
   refine⟨_,_,.str _,e8,hJ b a'.off c' xs sep w (fun j x hj=> ?_) (Array.getElem?_eq_some_iff.1 p5).1 (by omega) (by omega) (by omega)⟩
   have Es:=(List.getElem?_eq_some_iff.1 hj).1
   obtain⟨v',q1,q2⟩:=H.cell hs dH.1 g1 (j:=j) (by omega) (by omega) (g5 j (.string x) (by simp [hj]))
   rw [nR a' p4,p2]at q1
   rw [q1,q2.kV]
end
end Go.Ve
namespace Go.Ve.T
open Go.Ve Go.Proofs Go.RowKit
noncomputable section
set_option maxRecDepth 20000
theorem AH.anz {h:AH}{b o n:Nat}{l:List Value}(hn:l.length=n) (H:h.can b o n):(h.wr b o l).bE b o l:=fun i v hv=>by
 have hi:i<l.length:=(List.getElem?_eq_some_iff.1 hv).1
 subst hn
 rw [AH.wT H (Nat.le_refl _),if_pos ⟨rfl,by omega,by omega⟩,Nat.add_sub_cancel_left];exact hv
def FT:List (List Value):=[[(bs []),vi 0,vi 0,vi 0,vi 0,vi 0,vi 0,.bool false,.bool false],
[(bs [105,110,116]),vi 1,vi 4,vi 0,vi 1,vi 0,vi 0,.bool false,.bool false],
[(bs [98,111,111,108]),vi 1,vi 5,vi 0,vi 1,vi 0,vi 0,.bool false,.bool false],
[(bs [118,111,105,100]),vi 1,vi 0,vi 0,vi 1,vi 0,vi 0,.bool false,.bool false],
[(bs [109,111,118,101]),vi 1,vi 1,vi 0,vi 1,vi 2,vi 0,.bool false,.bool false],
[(bs [115,101,108,102]),vi 1,vi 0,vi 0,vi 1,vi 0,vi 0,.bool false,.bool false],
[(bs [97,100,100]),vi 1,vi 1,vi 1,vi 1,vi 2,vi 3,.bool true,.bool false],
[(bs [115,117,98]),vi 1,vi 1,vi 1,vi 1,vi 2,vi 3,.bool true,.bool false],
[(bs [109,117,108]),vi 1,vi 1,vi 1,vi 1,vi 2,vi 3,.bool true,.bool false],
[(bs [100,105,118]),vi 1,vi 1,vi 1,vi 1,vi 2,vi 3,.bool true,.bool false],
[(bs [109,111,100]),vi 1,vi 1,vi 1,vi 1,vi 2,vi 3,.bool true,.bool false],
[(bs [110,101,103]),vi 1,vi 1,vi 0,vi 1,vi 2,vi 0,.bool false,.bool false],
[(bs [101,113]),vi 1,vi 1,vi 1,vi 1,vi 2,vi 3,.bool false,.bool false],
[(bs [108,101,115,115]),vi 1,vi 1,vi 1,vi 1,vi 2,vi 3,.bool false,.bool false],
[(bs [109,111,115,116]),vi 1,vi 1,vi 1,vi 1,vi 2,vi 3,.bool false,.bool false],
[(bs [110,111,116]),vi 1,vi 1,vi 0,vi 1,vi 2,vi 0,.bool false,.bool false],
[(bs [104,97,115]),vi 1,vi 1,vi 0,vi 1,vi 2,vi 0,.bool false,.bool false],
[(bs [103,101,116]),vi 1,vi 2,vi 7,vi 1,vi 2,vi 0,.bool true,.bool false],
[(bs [115,101,116]),vi 7,vi 1,vi 0,vi 0,vi 2,vi 0,.bool false,.bool false],
[(bs [97,114,103]),vi 6,vi 1,vi 0,vi 0,vi 2,vi 0,.bool false,.bool false],
[(bs [99,97,108,108]),vi 2,vi 2,vi 8,vi 1,vi 2,vi 0,.bool true,.bool false],
[(bs [110,101,119]),vi 1,vi 10,vi 5,vi 1,vi 0,vi 0,.bool true,.bool false],
[(bs [109,97,107,101]),vi 1,vi 9,vi 0,vi 0,vi 1,vi 0,.bool true,.bool false],
[(bs [105,110,118]),vi 2,vi 0,vi 0,vi 0,vi 1,vi 0,.bool true,.bool false],
[(bs [106,117,109,112]),vi 3,vi 0,vi 0,vi 0,vi 0,vi 0,.bool false,.bool true],
[(bs [102,97,108,115,101]),vi 1,vi 3,vi 0,vi 0,vi 1,vi 0,.bool false,.bool false],
[(bs [114,97,105,115,101]),vi 11,vi 0,vi 0,vi 0,vi 0,vi 0,.bool true,.bool true],
[(bs [102,97,105,108]),vi 0,vi 0,vi 0,vi 0,vi 0,vi 0,.bool true,.bool true],
[(bs [114,101,116]),vi 2,vi 0,vi 0,vi 0,vi 1,vi 0,.bool false,.bool true],
[(bs [112,117,116]),vi 1,vi 0,vi 0,vi 0,vi 1,vi 0,.bool false,.bool false],
[(bs [101,110,116,101,114]),vi 1,vi 0,vi 0,vi 0,vi 1,vi 0,.bool true,.bool false],
[(bs [108,101,97,118,101]),vi 0,vi 0,vi 0,vi 0,vi 0,vi 0,.bool false,.bool false],
[(bs [97,103,97,105,110]),vi 1,vi 3,vi 0,vi 0,vi 1,vi 0,.bool true,.bool false],
[(bs [108,111,97,100]),vi 1,vi 12,vi 0,vi 1,vi 0,vi 0,.bool false,.bool false],
[(bs [115,116,111,114,101]),vi 12,vi 1,vi 0,vi 0,vi 2,vi 0,.bool false,.bool false]]
def isOp (op:Int):Bool:=decide (1≤op∧op≤34)
def ta (op:Int):List Value:=if isOp op then FT.getD op.toNat []else FT.getD 0 []
theorem Gk {op:Int}(h:isOp op=true):op=1∨op=2∨op=3∨op=4∨op=5∨op=6∨op=7∨op=8∨op=9∨op=10∨op=11∨op=12∨op=13∨op=14∨op=15∨op=16∨op=17∨op=18∨op=19∨op=20∨op=21∨op=22∨op=23∨op=24∨op=25∨op=26∨op=27∨op=28∨op=29∨op=30∨op=31∨op=32∨op=33∨op=34:=by
 unfold isOp at h;rw [decide_eq_true_eq]at h;omega
def Vr:NT jD:=NT.e.set 120 (some (aF 120))
theorem anA:∀f af,Vr.get f=some af→ct PP f=some af:=fun f af h=>by
 unfold Vr at h
 rw [NT.eK]at h
 split at h
 · have:=Option.some.inj h;subst this;subst f;exact anB
 · cases h
theorem anC:ev Vr [] 100000 (.call 120 [] ⟨0,.e⟩ (TZ (.agg ⟨FT.flatten⟩)))=true:=by kernel_rfl
section
variable {w0:World}{h:AH}{Q:CR→AH→Prop}
open Classical in
theorem adV (H:∀h',dT h h'→(h.Ok→h'.Ok)→Q (.ret (.agg ⟨FT.flatten⟩)) h'):WF PP w0 YN [] h Q:=by
 have hC:∀w,Can PP 120∧Calls PP 120 #[] w fun E w'=>E= .returned (.agg ⟨FT.flatten⟩)∧Below w.heap.size w w':=fun w=>amc bT anA (sums:=[]) (fun p hp=>by cases hp) anC .nil
 have hp:zx (.agg ⟨FT.flatten⟩) (.agg ⟨FT.flatten⟩)=true:=by kernel_rfl
 refine⟨(hC w0).1,fun φ args' w hl hh=> ?_⟩
 have:args'= #[]:=by
  cases iM:args'.toList with
  | nil=>simpa using iM
  | cons _ _=>rw [iM]at hl;cases hl
 subst this
 exact Calls.mono (hC w).2 fun E w' hE=>⟨_,h,φ,decide_eq_true (H h (.refl h) id),Ext.refl _ _,Nat.le_refl _,hh.behind hE.2,_,hE.1,(FJ hp φ).1⟩
theorem adW {sz:Nat}:∀{l:List (List Value)}{i:Nat}{x:List Value},(∀x∈l,x.length=sz)→l[i]? =some x→(l.flatten.drop (i*sz)).take sz=x
 | [],i,x,_,e=>by simp at e
 | y::l,0,x,hs,e=>by
  simp at e;subst e
  have:=hs y List.mem_cons_self
  rw [Nat.zero_mul,List.drop_zero,List.flatten_cons,List.take_append_of_le_length (by omega),←this,List.take_length]
 | y::l,i+1,x,hs,e=>by
  have h1:=hs y List.mem_cons_self
  rw [List.flatten_cons,show(i+1)*sz=y.length+i*sz by rw [h1,Nat.add_mul];omega,List.drop_append,List.drop_of_length_le (by omega),List.nil_append,Nat.add_sub_cancel_left]
  exact adW (fun x hx=>hs x (List.mem_cons_of_mem _ hx)) (by simpa using e)
theorem anD {h h':AH}(K:dT h h'){b o n:Nat}(hb:b<h.nx):h'.can b o n↔h.can b o n:=by unfold AH.can;rw [K.get b hb]
theorem adX {i:Nat}(hi:i<35):∃x,FT[i]? =some x∧FT.getD i []=x∧x.length=9∧dP x=true:=by
 have hl:FT.length=35:=by kernel_rfl
 have h1:FT.all (fun x=>decide (x.length=9)&&dP x)=true:=by kernel_rfl
 have hx:FT[i]? =some FT[i]:=List.getElem?_eq_getElem (by omega)
 have h2:=List.all_eq_true.1 h1 FT[i] (List.getElem_mem (by omega))
 rw [Bool.and_eq_true,decide_eq_true_eq]at h2
 exact⟨_,hx,by rw [List.getD,hx];rfl,h2.1,h2.2⟩
theorem adY (op:Int) (H:∀h',dT h h'→(h.Ok→h'.Ok)→Q (.ret (.tuple ⟨[.agg ⟨ta op⟩,.bool (isOp op)]⟩)) h'):WF PP w0 vR [vi op] h Q:=by
 refine ahY _ ?_
 unfold YO
 refine(FR rfl).2 ?_
 refine eF.2 ?_
 by_cases hi:isOp op=true
 · have dK:1≤op∧op≤34:=by unfold isOp at hi;rwa [decide_eq_true_eq]at hi
   have e1:decide (op<1)=false:=decide_eq_false (by omega)
   have e2:decide (34<op)=false:=decide_eq_false (by omega)
   simp only [e1,e2,I6,pr,ld,pn,Um,Un,Uo,Up,Uq,Uw,Ux,Ur,Us,Ut,Uu,Uv,ck,zG,bf,cond_true,cond_false,bC,au,UK,nU (show 0<2 by decide),nU (show 0<3 by decide),nU (show 0<4 by decide),nU (show 0<7 by decide),nU (show 0<9 by decide),UL,Mc,UM,AH.UH,AH.UG,AH.LJ,AH.T9,AH.Mb,AH.UI,AH.nb,if_true,if_false,Nat.zero_add,Nat.add_zero,Nat.reduceAdd,b9,cb,cd,cf,UU,UW,UX,UY,List.getElem?_cons_zero,List.getElem?_cons_succ,Option.some.injEq,exists_eq_left',Option.bind_some,Option.map_some,cK,oy,eF,pz,nh,pA,gN,Uj,Uk,decide_true,decide_false,Bool.not_true,Bool.not_false,Nat.left_eq_add,Nat.add_eq_zero_iff,Nat.add_eq_left,Nat.add_eq_right,Nat.reduceEqDiff,Nat.one_ne_zero,and_false,false_and,true_and,and_true,List.length_cons,List.length_nil,Nat.reduceLeDiff,Nat.le_refl,Nat.not_lt_zero,Nat.lt_irrefl,reduceCtorEq,UZ,uZ,UN,UO,UP,UQ,UR,US,UT,Bool.and_self,Bool.and_true,Bool.true_and,dW,Md,U3,ml,mj,List.take_zero,List.take_succ_cons,List.drop_zero,List.drop_succ_cons,List.drop_nil,List.take_nil,and_self,↓reduceIte,List.flatMap_cons,List.flatMap_nil,List.cons_append,List.nil_append,List.append_nil,FR,LV,Nat.sub_zero,Nat.reduceSub,Nat.reduceLT,AH.UJ,Nat.zero_le]
   unfold YM
   refine adV fun h' K ok=> ?_
   obtain⟨k,hk⟩:∃k:Nat,op=k:=⟨op.toNat,by omega⟩
   subst hk
   obtain⟨x,x1,x2,x3,x4⟩:=adX (i:=k) (by omega)
   have qj:ta (k:Int)=x:=by unfold ta;rw [hi,if_pos rfl];exact x2
   refine(amC (by omega) (by have:FT.flatten.length=315:=(by kernel_rfl);omega)).2 ?_
   rw [adW (fun y hy=> ?_) x1]
   rotate_left
   · have h1:FT.all (fun x=>decide (x.length=9))=true:=by kernel_rfl
     exact of_decide_eq_true (List.all_eq_true.1 h1 y hy)
   have hc:h'.can h.nx 0 9:=(anD K (Nat.lt_succ_self _)).2 (by rw [AH.Mb,if_pos rfl];exact Nat.le_refl 9)
   refine(LY hc (show(cellsOf (.agg ⟨x⟩)).length=9 from x3) x4).2 ?_
   refine(LX (l:=x) (AH.anz x3 hc) x3 (by decide)).2 ?_
   simp only [qj,hi]at H
   exact H _ (((dT.new h _ _).trans K).wr (Nat.le_refl _) _ _) (fun o=>AH.uV (ok (AH.uU o _ _)) _ _ _)
 · have dK:¬(1≤op∧op≤34):=by unfold isOp at hi;rwa [decide_eq_true_eq]at hi
   have hf:ta op=[(bs []),vi 0,vi 0,vi 0,vi 0,vi 0,vi 0,.bool false,.bool false]:=by unfold ta;rw [if_neg hi];rfl
   have hb:isOp op=false:=by simpa using hi
   by_cases e1:op<1
   · simp only [decide_eq_true e1,I6,pr,ld,pn,Um,Un,Uo,Up,Uq,Uw,Ux,Ur,Us,Ut,Uu,Uv,ck,zG,bf,cond_true,cond_false,bC,au,UK,nU (show 0<2 by decide),nU (show 0<3 by decide),nU (show 0<4 by decide),nU (show 0<7 by decide),nU (show 0<9 by decide),UL,Mc,UM,AH.UH,AH.UG,AH.LJ,AH.T9,AH.Mb,AH.UI,AH.nb,if_true,if_false,Nat.zero_add,Nat.add_zero,Nat.reduceAdd,b9,cb,cd,cf,UU,UW,UX,UY,List.getElem?_cons_zero,List.getElem?_cons_succ,Option.some.injEq,exists_eq_left',Option.bind_some,Option.map_some,cK,oy,eF,pz,nh,pA,gN,Uj,Uk,decide_true,decide_false,Bool.not_true,Bool.not_false,Nat.left_eq_add,Nat.add_eq_zero_iff,Nat.add_eq_left,Nat.add_eq_right,Nat.reduceEqDiff,Nat.one_ne_zero,and_false,false_and,true_and,and_true,List.length_cons,List.length_nil,Nat.reduceLeDiff,Nat.le_refl,Nat.not_lt_zero,Nat.lt_irrefl,reduceCtorEq,UZ,uZ,UN,UO,UP,UQ,UR,US,UT,Bool.and_self,Bool.and_true,Bool.true_and,dW,Md,U3,ml,mj,List.take_zero,List.take_succ_cons,List.drop_zero,List.drop_succ_cons,List.drop_nil,List.take_nil,and_self,↓reduceIte,List.flatMap_cons,List.flatMap_nil,List.cons_append,List.nil_append,List.append_nil,FR,LV,Nat.sub_zero,Nat.reduceSub,Nat.reduceLT,AH.UJ,Nat.zero_le,ie (show ml [(bs []),(vi 0),(vi 0),(vi 0),(vi 0),(vi 0),(vi 0),(.bool false),(.bool false)] [] []=some [(bs []),(vi 0),(vi 0),(vi 0),(vi 0),(vi 0),(vi 0),(.bool false),(.bool false)]from rfl)]
     simp only [hf,hb]at H
     exact H _ ((dT.new h _ _).wr (Nat.le_refl _) _ _) (fun o=>AH.uV (AH.uU o _ _) _ _ _)
   · have e2:34<op:=by omega
     simp only [decide_eq_false e1,decide_eq_true e2,I6,pr,ld,pn,Um,Un,Uo,Up,Uq,Uw,Ux,Ur,Us,Ut,Uu,Uv,ck,zG,bf,cond_true,cond_false,bC,au,UK,nU (show 0<2 by decide),nU (show 0<3 by decide),nU (show 0<4 by decide),nU (show 0<7 by decide),nU (show 0<9 by decide),UL,Mc,UM,AH.UH,AH.UG,AH.LJ,AH.T9,AH.Mb,AH.UI,AH.nb,if_true,if_false,Nat.zero_add,Nat.add_zero,Nat.reduceAdd,b9,cb,cd,cf,UU,UW,UX,UY,List.getElem?_cons_zero,List.getElem?_cons_succ,Option.some.injEq,exists_eq_left',Option.bind_some,Option.map_some,cK,oy,eF,pz,nh,pA,gN,Uj,Uk,decide_true,decide_false,Bool.not_true,Bool.not_false,Nat.left_eq_add,Nat.add_eq_zero_iff,Nat.add_eq_left,Nat.add_eq_right,Nat.reduceEqDiff,Nat.one_ne_zero,and_false,false_and,true_and,and_true,List.length_cons,List.length_nil,Nat.reduceLeDiff,Nat.le_refl,Nat.not_lt_zero,Nat.lt_irrefl,reduceCtorEq,UZ,uZ,UN,UO,UP,UQ,UR,US,UT,Bool.and_self,Bool.and_true,Bool.true_and,dW,Md,U3,ml,mj,List.take_zero,List.take_succ_cons,List.drop_zero,List.drop_succ_cons,List.drop_nil,List.take_nil,and_self,↓reduceIte,List.flatMap_cons,List.flatMap_nil,List.cons_append,List.nil_append,List.append_nil,FR,LV,Nat.sub_zero,Nat.reduceSub,Nat.reduceLT,AH.UJ,Nat.zero_le,ie (show ml [(bs []),(vi 0),(vi 0),(vi 0),(vi 0),(vi 0),(vi 0),(.bool false),(.bool false)] [] []=some [(bs []),(vi 0),(vi 0),(vi 0),(vi 0),(vi 0),(vi 0),(.bool false),(.bool false)]from rfl)]
     simp only [hf,hb]at H
     exact H _ ((dT.new h _ _).wr (Nat.le_refl _) _ _) (fun o=>AH.uV (AH.uU o _ _) _ _ _)
end
end
end Go.Ve.T
namespace Go.Ve.T
open Go.Ve Go.Proofs
noncomputable section
set_option maxRecDepth 20000
def au7:List vw:=[
⟨bytesOf [],⟨0,0,0⟩,0,⟨0,0⟩,false,false⟩,
⟨bytesOf [105,110,116],⟨1,4,0⟩,1,⟨0,0⟩,false,false⟩,
⟨bytesOf [98,111,111,108],⟨1,5,0⟩,1,⟨0,0⟩,false,false⟩,
⟨bytesOf [118,111,105,100],⟨1,0,0⟩,1,⟨0,0⟩,false,false⟩,
⟨bytesOf [109,111,118,101],⟨1,1,0⟩,1,⟨2,0⟩,false,false⟩,
⟨bytesOf [115,101,108,102],⟨1,0,0⟩,1,⟨0,0⟩,false,false⟩,
⟨bytesOf [97,100,100],⟨1,1,1⟩,1,⟨2,3⟩,true,false⟩,
⟨bytesOf [115,117,98],⟨1,1,1⟩,1,⟨2,3⟩,true,false⟩,
⟨bytesOf [109,117,108],⟨1,1,1⟩,1,⟨2,3⟩,true,false⟩,
⟨bytesOf [100,105,118],⟨1,1,1⟩,1,⟨2,3⟩,true,false⟩,
⟨bytesOf [109,111,100],⟨1,1,1⟩,1,⟨2,3⟩,true,false⟩,
⟨bytesOf [110,101,103],⟨1,1,0⟩,1,⟨2,0⟩,false,false⟩,
⟨bytesOf [101,113],⟨1,1,1⟩,1,⟨2,3⟩,false,false⟩,
⟨bytesOf [108,101,115,115],⟨1,1,1⟩,1,⟨2,3⟩,false,false⟩,
⟨bytesOf [109,111,115,116],⟨1,1,1⟩,1,⟨2,3⟩,false,false⟩,
⟨bytesOf [110,111,116],⟨1,1,0⟩,1,⟨2,0⟩,false,false⟩,
⟨bytesOf [104,97,115],⟨1,1,0⟩,1,⟨2,0⟩,false,false⟩,
⟨bytesOf [103,101,116],⟨1,2,7⟩,1,⟨2,0⟩,true,false⟩,
⟨bytesOf [115,101,116],⟨7,1,0⟩,0,⟨2,0⟩,false,false⟩,
⟨bytesOf [97,114,103],⟨6,1,0⟩,0,⟨2,0⟩,false,false⟩,
⟨bytesOf [99,97,108,108],⟨2,2,8⟩,1,⟨2,0⟩,true,false⟩,
⟨bytesOf [110,101,119],⟨1,10,5⟩,1,⟨0,0⟩,true,false⟩,
⟨bytesOf [109,97,107,101],⟨1,9,0⟩,0,⟨1,0⟩,true,false⟩,
⟨bytesOf [105,110,118],⟨2,0,0⟩,0,⟨1,0⟩,true,false⟩,
⟨bytesOf [106,117,109,112],⟨3,0,0⟩,0,⟨0,0⟩,false,true⟩,
⟨bytesOf [102,97,108,115,101],⟨1,3,0⟩,0,⟨1,0⟩,false,false⟩,
⟨bytesOf [114,97,105,115,101],⟨11,0,0⟩,0,⟨0,0⟩,true,true⟩,
⟨bytesOf [102,97,105,108],⟨0,0,0⟩,0,⟨0,0⟩,true,true⟩,
⟨bytesOf [114,101,116],⟨2,0,0⟩,0,⟨1,0⟩,false,true⟩,
⟨bytesOf [112,117,116],⟨1,0,0⟩,0,⟨1,0⟩,false,false⟩,
⟨bytesOf [101,110,116,101,114],⟨1,0,0⟩,0,⟨1,0⟩,true,false⟩,
⟨bytesOf [108,101,97,118,101],⟨0,0,0⟩,0,⟨0,0⟩,false,false⟩,
⟨bytesOf [97,103,97,105,110],⟨1,3,0⟩,0,⟨1,0⟩,true,false⟩,
⟨bytesOf [108,111,97,100],⟨1,12,0⟩,1,⟨0,0⟩,false,false⟩,
⟨bytesOf [115,116,111,114,101],⟨12,1,0⟩,0,⟨2,0⟩,false,false⟩]
def vw.cells (x:vw):List Value:=[.string x.rE,vi x.eT.e0,vi x.eT.e1,vi x.eT.e2,vi x.lb,vi x.dY.e0,vi x.dY.e1,.bool x.lK,.bool x.l5]
def Oq:vw:=⟨bytesOf [],⟨0,0,0⟩,0,⟨0,0⟩,false,false⟩
def dM (op:Int):vw:=bif isOp op then au7.getD op.toNat Oq else Oq
theorem au8 (op:Int):(dM op).cells=ta op:=by
 unfold dM ta
 cases hi:isOp op with
 | false=>rfl
 | true=>rcases Gk hi with rfl | rfl | rfl | rfl | rfl | rfl | rfl | rfl | rfl | rfl | rfl | rfl | rfl | rfl | rfl | rfl | rfl | rfl | rfl | rfl | rfl | rfl | rfl | rfl | rfl | rfl | rfl | rfl | rfl | rfl | rfl | rfl | rfl | rfl<;>rfl
def CW (x0:Int):Option (vw×Bool):=some (dM x0,isOp x0)
theorem GH {w0:World}{g h:AH}{Q:CR→AH→Prop}{r:vw×Bool}(x0:Int) (sg:Sub g h) (ok:h.Ok) (M:CW x0=some r)
 (H:∀(g' h':AH),Sep ⟨g,h,[]⟩ g' h' []→Q (.ret (.tuple ⟨[(.agg ⟨[(.string r.1.rE),(vi r.1.eT.e0),(vi r.1.eT.e1),(vi r.1.eT.e2),(vi r.1.lb),(vi r.1.dY.e0),(vi r.1.dY.e1),(.bool r.1.lK),(.bool r.1.l5)]⟩),(.bool r.2)]⟩)) h'):WF PP w0 vR [vi x0] h Q:=by
 cases M
 refine adY x0 fun h' K qx=> ?_
 have:=H g h' ((Sep.start sg ok).dq K (qx ok))
 rw [←au8];exact this
end
end Go.Ve.T
namespace Go.Ve.T
open Go.Ve Go.Proofs
noncomputable section
set_option maxRecDepth 10000
def tk (w0:World) (g:AH) (fv:Value) (f:Int→Option Bool):Prop:=fR fv=true∧∀(a0:Int) (r:Bool) (E K:Value→W) (g2 h2:AH),Sub g g2→Sub g2 h2→h2.Ok→f a0=some r→(∀(g' h':AH),Sep ⟨g2,h2,[]⟩ g' h' []→K (.bool r) h')→dy PP w0 [fv,(vi a0)] E K h2
theorem tk.mono {w0:World}{g g':AH}{fv:Value}{f:Int→Option Bool}(H:tk w0 g fv f) (S:Sub g g'):tk w0 g' fv f:=⟨H.1,fun a0 r E K g2 h2 s1=>H.2 a0 r E K g2 h2 (Sub.trans S s1)⟩
def rC (w0:World) (g:AH) (fv:Value) (f:aK→Option Bool):Prop:=fR fv=true∧∀(a0:aK) (r:Bool) (E K:Value→W) (g2 h2:AH),Sub g g2→Sub g2 h2→h2.Ok→f a0=some r→(∀(g' h':AH),Sep ⟨g2,h2,[]⟩ g' h' []→K (.bool r) h')→dy PP w0 [fv,(.agg ⟨[(vi a0.eD),(vi a0.fg),(vi a0.eg)]⟩)] E K h2
theorem rC.mono {w0:World}{g g':AH}{fv:Value}{f:aK→Option Bool}(H:rC w0 g fv f) (S:Sub g g'):rC w0 g' fv f:=⟨H.1,fun a0 r E K g2 h2 s1=>H.2 a0 r E K g2 h2 (Sub.trans S s1)⟩
def tl (x0:Int) (x1:Int) (x2:Int):Option Bool :=
 bif (decide (x1≤x0))then(
 some (decide (x0≤x2)))else(
 some false)
abbrev aoF (c:Cx) (R:Value→W) (r:Bool):Prop:=∀(g' h':AH),Sep c g' h' []→R (.bool r) h'
theorem CU {w0:World}{g h:AH}{Q:CR→AH→Prop}{r:Bool}{x0 x1 x2:Int}(M:tl x0 x1 x2=some r) (sg:Sub g h) (ok:h.Ok)  (H:aoF ⟨g,h,[]⟩ (fun v=>Q (.ret v)) r):WF PP w0 vQ [(vi x0),(vi x1),(vi x2)] h Q:=by
 refine ahT _ _ _ ?_
 have S:=Sep.start sg ok
 unfold YJ
 unfold tl at M
 refine pz.2 ?_
 cases hc:(decide (x1≤x0))
 · have M:=aS hc M
   refine aA (by decide) ?_
   refine aA (by decide) ?_
   refine aA (by decide) ?_
   refine bf.2 ?_
   cases M
   exact H _ _  S.bH
 · have M:=aQ hc M
   refine ax rfl ?_
   refine ax rfl ?_
   refine ax rfl ?_
   refine pz.2 ?_
   refine bf.2 ?_
   cases M
   exact H _ _  S.bH
def z8 (x0:aq):Option fb :=
 some (fb.mk x0.fA x0.fB x0.fC)
abbrev aoG (c:Cx) (R:Value→W) (r:fb):Prop:=∀(g' h':AH),Sep c g' h' []→R (.agg ⟨[(vi r.e0),(vi r.e1),(vi r.e2)]⟩) h'
theorem M4 {w0:World}{g h:AH}{Q:CR→AH→Prop}{r:fb}{x0:aq}(M:z8 x0=some r) (sg:Sub g h) (ok:h.Ok)  (H:aoG ⟨g,h,[]⟩ (fun v=>Q (.ret v)) r):WF PP w0 Bn [(.agg ⟨[(vi x0.aI),(vi x0.fA),(vi x0.fB),(vi x0.fC)]⟩)] h Q:=by
 refine ahZ _ ?_
 have S:=Sep.start sg ok
 unfold YP
 unfold z8 at M
 refine S.box [(vi x0.aI),(vi x0.fA),(vi x0.fB),(vi x0.fC)] rfl (aa rfl (aa rfl (aa rfl (aa rfl rfl)))) (fun jl h S=> ?_)
 refine S.alloc (l:=[(vi 0),(vi 0),(vi 0)]) (aa rfl (aa rfl (aa rfl rfl))) (fun CV h S=> ?_)
 refine bC.2 ?_
 refine S.bz 1 rfl rfl ?_
 refine bC.2 ?_
 refine S.bz 1 rfl rfl ?_
 refine bC.2 ?_
 refine S.bz 1 rfl rfl ?_
 refine eP [(vi x0.fA),(vi x0.fB),(vi x0.fC)] (by simp only [dW,b9,cb,cd,cf,  List.length_cons,List.length_nil,Nat.reduceAdd,Nat.zero_add,decide_true,Bool.and_self]) (by simp only [List.flatMap_cons,List.flatMap_nil,b9,cb,cd,cf,  List.cons_append,List.nil_append,List.append_nil]) ?_
 refine S.dv [(vi x0.fA),(vi x0.fB),(vi x0.fC)] [(vi x0.fA),(vi x0.fB),(vi x0.fC)] rfl rfl (aa rfl (aa rfl (aa rfl rfl))) (Nat.le_of_ble_eq_true rfl) rfl (fun h S=> ?_)
 refine S.dc [(vi x0.fA),(vi x0.fB),(vi x0.fC)] 0 rfl rfl rfl (by decide) ?_
 cases M
 exact H _ _  S.bH
def M5 (N:Nat) (bB:Int) (aL:List Int) (kM:aq) (cO:(List Int)→Int→Option ((List Int))):Option ((List Int)) :=
 cO aL (bD .i64 (bB+1))
def VT (N:Nat) (v11:fb) (bB:Int) (v1:aq) (bK:List Int) (cO:(List Int)→Int→Option ((List Int))):Option ((List Int)) :=
(ix [v11.e0,v11.e1,v11.e2] bB).bind fun iP =>
 bif (decide (iP=3))then(
(z8 v1).bind fun eM =>
(ix [eM.e0,eM.e1,eM.e2] bB).bind fun eb =>
 gu (decide (bK.length+[eb].length≤1048576)) (
 M5 N bB (bK++[eb]) v1 cO))else(
 M5 N bB bK v1 cO)
def VU (N:Nat) (y9:List Int)  :Option ((List Int)) :=
 some y9
def VV (N:Nat) (v11:fb) (v1:aq) (bK:List Int) (bB:Int) (cO:(List Int)→Int→Option ((List Int))):Option ((List Int)) :=
 bif (decide (bB<3))then(
 VT N v11 bB v1 bK cO)else(
 VU N bK)
def M6 (N:Nat) (v11:fb) (v1:aq)  :Nat→(List Int)→Int→Option ((List Int))
 | 0,_,_=>none
 | n+1,bK,bB=>VV N v11 v1 bK bB  (fun ag aD=>M6 N v11 v1 n ag aD)
def Aa (N:Nat) (x0:aq):Option ((List Int)) :=
(CW x0.aI).bind fun aR =>
 M6 N aR.1.eT x0 N ([]:List Int) 0
abbrev CX (c:Cx) (R:Value→W) (r:(List Int)):Prop:=∀(g' h':AH) (w1:Value),Sep c g' h' []→ab (rI .i64) 1 g' w1 r→R w1 h'
theorem aeD {w0:World}{c:Cx}{g h:AH}{E R:Value→W}{r:(List Int)}{N:Nat}{bB:Int}{aL:List Int}{kM:aq}{GC:Value}{GD:List (List Value)}{GF:Nat}{dh:Value→Value→W}{cO:(List Int)→Int→Option ((List Int))}{fT:AH}(M:M5 N bB aL kM cO=some r) (S:Sep c g h [.sl 3 1 GC GD,.bx GF [(vi kM.aI),(vi kM.fA),(vi kM.fB),(vi kM.fC)]]) (VW:ah ((rI .i64) g) GD aL) (iC:Sub fT g) (je:∀{ag:List Int}{bP:Value}{bQ:List (List Value)}{aD:Int}{g2 h2:AH},cO ag aD=some r→Sub fT g2→Sep c g2 h2 [.bx GF [(vi kM.aI),(vi kM.fA),(vi kM.fB),(vi kM.fC)],.sl 3 1 bP bQ]→ah ((rI .i64) g2) bQ ag→dh bP (vi aD) h2) (H:CX c R r):I7 w0 E R (vi bB) dh GC h:=by
 unfold I7
 unfold M5 at M
 refine fF.2 ?_
 have S:=S.f1
 exact je M iC S VW
theorem aoH {w0:World}{c:Cx}{g h:AH}{E R:Value→W}{r:(List Int)}{N:Nat}{v11:fb}{bB:Int}{v1:aq}{bK:List Int}{al:Nat}{gE:Value}{fU:List (List Value)}{dh:Value→Value→W}{cO:(List Int)→Int→Option ((List Int))}{fT:AH}(M:VT N v11 bB v1 bK cO=some r) (S:Sep c g h [.bx al [(vi v1.aI),(vi v1.fA),(vi v1.fB),(vi v1.fC)],.sl 3 1 gE fU]) (gZ:ah ((rI .i64) g) fU bK) (iC:Sub fT g) (je:∀{ag:List Int}{bP:Value}{bQ:List (List Value)}{aD:Int}{g2 h2:AH},cO ag aD=some r→Sub fT g2→Sep c g2 h2 [.bx al [(vi v1.aI),(vi v1.fA),(vi v1.fB),(vi v1.fC)],.sl 3 1 bP bQ]→ah ((rI .i64) g2) bQ ag→dh bP (vi aD) h2) (H:CX c R r):OP w0 E R (.agg ⟨[(vi v11.e0),(vi v11.e1),(vi v11.e2)]⟩) (vi bB) (au al 0) gE dh h:=by
 unfold OP
 unfold VT at M
 obtain⟨iP,oG,M⟩:=bind_some M
 refine CS [v11.e0,v11.e1,v11.e2] (fun q=>(vi q)) rfl oG ?_
 refine cK.2 ?_
 refine bw (fun hc=> ?_) (fun hc=> ?_)
 · have M:=aQ hc M
   refine S.dc [(vi v1.aI),(vi v1.fA),(vi v1.fB),(vi v1.fC)] 0 rfl rfl rfl (by decide) ?_
   obtain⟨eM,l4,M⟩:=bind_some M
   refine M4 l4 S.sub S.ok (fun _ h  S1  => ?_)
   have S:=S.dB S1
   obtain⟨eb,mr,M⟩:=bind_some M
   refine CS [eM.e0,eM.e1,eM.e2] (fun q=>(vi q)) rfl mr ?_
   refine S.qy [[(vi eb)]] (de (m:=[(vi eb)]) (l2:=[(vi eb)]) rfl rfl (Nat.le_of_ble_eq_true rfl) rfl rfl) rfl (by decide) (tj rfl qA) (aa rfl rfl) (fun aoI h S=> ?_)
   have Ab:ah ((rI .i64) g) [[(vi eb)]] [eb]:=(ah.push ah.nil (show(rI .i64) g [(vi eb)] eb from rfl))
   have S:=S.f2
   obtain⟨VX,M⟩:=mo M
   refine S.app (S.rd 1 rfl) (by rw [gZ.1,Ab.1];exact VX) (by decide) rfl (la (l3 .i64) Ab) (la (l3 .i64) gZ) (fun aeE h S=> ?_)
   have vo:ah ((rI .i64) g) (fU++[[(vi eb)]]) (bK++[eb]):=ah.append gZ Ab
   have S:=S.f2
   have S:=S.f1
   have S:=S.t2
   exact aeD M S vo iC je H
 · have M:=aS hc M
   have S:=S.f1
   exact aeD M S gZ iC je H
theorem aoJ {w0:World}{c:Cx}{g h:AH}{E R:Value→W}{r:(List Int)}{N:Nat}{y9:List Int}{rD:Value}{xh:List (List Value)}  (M:VU N y9=some r) (S:Sep c g h [.sl 3 1 rD xh]) (GG:ah ((rI .i64) g) xh y9)  (H:CX c R r):OO w0 E R rD h:=by
 unfold OO
 unfold VU at M
 obtain⟨g,sg,S,aoK⟩:=S.fz GG (du .i64)
 cases M
 exact H _ _ rD S.bH aoK
theorem aoL {w0:World}{c:Cx}{g h:AH}{E R:Value→W}{r:(List Int)}{N:Nat}{v11:fb}{v1:aq}{bK:List Int}{bB:Int}{al:Nat}{gE:Value}{fU:List (List Value)}{dh:Value→Value→W}{cO:(List Int)→Int→Option ((List Int))}{fT:AH}(M:VV N v11 v1 bK bB cO=some r) (S:Sep c g h [.bx al [(vi v1.aI),(vi v1.fA),(vi v1.fB),(vi v1.fC)],.sl 3 1 gE fU]) (gZ:ah ((rI .i64) g) fU bK) (iC:Sub fT g) (je:∀{ag:List Int}{bP:Value}{bQ:List (List Value)}{aD:Int}{g2 h2:AH},cO ag aD=some r→Sub fT g2→Sep c g2 h2 [.bx al [(vi v1.aI),(vi v1.fA),(vi v1.fB),(vi v1.fC)],.sl 3 1 bP bQ]→ah ((rI .i64) g2) bQ ag→dh bP (vi aD) h2) (H:CX c R r):I8 w0 E R (.agg ⟨[(vi v11.e0),(vi v11.e1),(vi v11.e2)]⟩) (au al 0) dh gE (vi bB) h:=by
 unfold I8
 unfold VV at M
 refine eF.2 ?_
 refine bw (fun hc=> ?_) (fun hc=> ?_)
 · have M:=aQ hc M
   exact aoH M S gZ iC je H
 · have M:=aS hc M
   have S:=S.f1
   have S:=S.t1
   exact aoJ M S gZ H
theorem aoM {w0:World}{c:Cx}{E R:Value→W}{r:(List Int)}{N:Nat}{v11:fb}{v1:aq}{al:Nat}   (H:CX c R r):∀(n:Nat){bK:List Int}{bB:Int}{gE:Value}{fU:List (List Value)}{g h:AH},M6 N v11 v1 n bK bB=some r→Sep c g h [.bx al [(vi v1.aI),(vi v1.fA),(vi v1.fB),(vi v1.fC)],.sl 3 1 gE fU]→ah ((rI .i64) g) fU bK→eS (α:=Value×Value) (fun k a=>I8 w0 E R (.agg ⟨[(vi v11.e0),(vi v11.e1),(vi v11.e2)]⟩) (au al 0) (fun b0 b1=>k (b0,b1)) a.1 a.2) n (gE,(vi bB)) h:=by
 intro n
 induction n with
 | zero =>
  intro bK bB gE fU g h M S gZ
  unfold M6 at M;cases M
 | succ n ih =>
  intro bK bB gE fU g h M S gZ
  exact aoL M S gZ  (Sub.refl g) (fun M2 sub S2 mu=>ih M2 S2 mu) H
theorem aeF {w0:World}{g h:AH}{Q:CR→AH→Prop}{r:(List Int)}{N:Nat}{x0:aq}(M:Aa N x0=some r) (sg:Sub g h) (ok:h.Ok)  (H:CX ⟨g,h,[]⟩ (fun v=>Q (.ret v)) r):WF PP w0 I9 [(.agg ⟨[(vi x0.aI),(vi x0.fA),(vi x0.fB),(vi x0.fC)]⟩)] h Q:=by
 refine ah0 _ ?_
 have S:=Sep.start sg ok
 unfold YQ
 unfold Aa at M
 refine S.box [(vi x0.aI),(vi x0.fA),(vi x0.fB),(vi x0.fC)] rfl (aa rfl (aa rfl (aa rfl (aa rfl rfl)))) (fun jl h S=> ?_)
 refine bC.2 ?_
 refine S.bz 0 rfl rfl ?_
 obtain⟨aR,jc,M⟩:=bind_some M
 refine GH x0.aI S.sub S.ok jc (fun _ h  S1  => ?_)
 have S:=S.dB S1
 refine(eY rfl).2 ?_
 refine(eY rfl).2 ?_
 refine S.alloc (l:=[(.string (⟨⟨[]⟩⟩:ByteArray)),(vi 0),(vi 0),(vi 0),(vi 0),(vi 0),(vi 0),(.bool false),(.bool false)]) (aa rfl (aa rfl (aa rfl (aa rfl (aa rfl (aa rfl (aa rfl (aa rfl (aa rfl rfl))))))))) (fun Ac h S=> ?_)
 refine S.dv [(.string aR.1.rE),(vi aR.1.eT.e0),(vi aR.1.eT.e1),(vi aR.1.eT.e2),(vi aR.1.lb),(vi aR.1.dY.e0),(vi aR.1.dY.e1),(.bool aR.1.lK),(.bool aR.1.l5)] [(.string aR.1.rE),(vi aR.1.eT.e0),(vi aR.1.eT.e1),(vi aR.1.eT.e2),(vi aR.1.lb),(vi aR.1.dY.e0),(vi aR.1.dY.e1),(.bool aR.1.lK),(.bool aR.1.l5)] rfl rfl (aa rfl (aa rfl (aa rfl (aa rfl (aa rfl (aa rfl (aa rfl (aa rfl (aa rfl rfl))))))))) (Nat.le_of_ble_eq_true rfl) rfl (fun h S=> ?_)
 refine bC.2 ?_
 refine S.dc [(vi aR.1.eT.e0),(vi aR.1.eT.e1),(vi aR.1.eT.e2)] 0 rfl rfl rfl (by decide) ?_
 have S:=S.zW 3 1
 have S:=S.f2
 have S:=S.t2
 exact⟨N,aoM  H _ M S (ah.nil (R:=(rI .i64) g))⟩
def VY (N:Nat) (y3:Int) (dU:Int→Option Int):Option Int :=
 dU (bD .i64 (y3+1))
def VZ (N:Nat) (x0:List Int) (y3:Int) (x1:Int→Option Bool) (dU:Int→Option Int):Option Int :=
(ix x0 y3).bind fun gG =>
(x1 gG).bind fun eM =>
 bif eM then(
 some y3)else(
 VY N y3 dU)
def V0 (N:Nat)   :Option Int :=
 some (-1)
def V1 (N:Nat) (v1:Int) (x0:List Int) (x1:Int→Option Bool) (y3:Int) (dU:Int→Option Int):Option Int :=
 bif (decide (y3<v1))then(
 VZ N x0 y3 x1 dU)else(
 V0 N)
def CY (N:Nat) (v1:Int) (x0:List Int) (x1:Int→Option Bool)  :Nat→Int→Option Int
 | 0,_=>none
 | n+1,y3=>V1 N v1 x0 x1 y3  (fun ag=>CY N v1 x0 x1 n ag)
def GI (N:Nat) (x0:List Int) (x1:Int→Option Bool):Option Int :=
 CY N (x0.length:Int) x0 x1 N 0
abbrev CZ (c:Cx) (R:Value→W) (r:Int):Prop:=∀(g' h':AH),Sep c g' h' []→R (vi r) h'
theorem aoN {w0:World}{c:Cx}{g h:AH}{E R:Value→W}{r:Int}{N:Nat}{y3:Int}{k2:Value→W}{dU:Int→Option Int}{iD:AH}(M:VY N y3 dU=some r) (S:Sep c g h [])  (lf:Sub iD g) (lg:∀{ag:Int}{g2 h2:AH},dU ag=some r→Sub iD g2→Sep c g2 h2 []→k2 (vi ag) h2) (H:CZ c R r):OJ w0 E R (vi y3) k2 h:=by
 unfold OJ
 unfold VY at M
 refine fF.2 ?_
 exact lg M lf S
theorem aoO {w0:World}{c:Cx}{g h:AH}{E R:Value→W}{r:Int}{N:Nat}{x0:List Int}{y3:Int}{x1:Int→Option Bool}{bI cA:Value}{k2:Value→W}{dU:Int→Option Int}{iD:AH}(M:VZ N x0 y3 x1 dU=some r) (S:Sep c g h []) (cw:ab (rI .i64) 1 g bI x0) (c7:tk w0 g cA x1) (lf:Sub iD g) (lg:∀{ag:Int}{g2 h2:AH},dU ag=some r→Sub iD g2→Sep c g2 h2 []→k2 (vi ag) h2) (H:CZ c R r):OK w0 E R bI (vi y3) cA k2 h:=by
 unfold OK
 unfold VZ at M
 obtain⟨gG,mv,M⟩:=bind_some M
 refine ab.idx cw mv (fun Ad GJ vs E_6 GK rp=> ?_)
 cases rp
 refine S.eH (GK 0 _ rfl) ?_
 obtain⟨eM,l4,M⟩:=bind_some M
 refine c7.2 gG _ _ _ _ _ (Sub.refl _) S.sub S.ok  l4 (fun _ h  S1  => ?_)
 have S:=S.dB S1
 refine bw (fun hc=> ?_) (fun hc=> ?_)
 · have M:=aQ hc M
   cases M
   exact H _ _  S.bH
 · have M:=aS hc M
   exact aoN M S lf lg H
theorem aoP {w0:World}{c:Cx}{g h:AH}{E R:Value→W}{r:Int}{N:Nat}   (M:V0 N  =some r) (S:Sep c g h [])   (H:CZ c R r):OI w0 E R  h:=by
 unfold OI
 unfold V0 at M
 cases M
 exact H _ _  S.bH
theorem aoQ {w0:World}{c:Cx}{g h:AH}{E R:Value→W}{r:Int}{N:Nat}{v1:Int}{x0:List Int}{x1:Int→Option Bool}{y3:Int}{bI cA:Value}{k2:Value→W}{dU:Int→Option Int}{iD:AH}(M:V1 N v1 x0 x1 y3 dU=some r) (S:Sep c g h []) (cw:ab (rI .i64) 1 g bI x0) (c7:tk w0 g cA x1) (lf:Sub iD g) (lg:∀{ag:Int}{g2 h2:AH},dU ag=some r→Sub iD g2→Sep c g2 h2 []→k2 (vi ag) h2) (H:CZ c R r):I5 w0 E R (vi v1) bI cA k2 (vi y3) h:=by
 unfold I5
 unfold V1 at M
 refine eF.2 ?_
 refine bw (fun hc=> ?_) (fun hc=> ?_)
 · have M:=aQ hc M
   exact aoO M S cw c7 lf lg H
 · have M:=aS hc M
   exact aoP M S  H
theorem aoR {w0:World}{c:Cx}{E R:Value→W}{r:Int}{N:Nat}{v1:Int}{x0:List Int}{x1:Int→Option Bool}{bI cA:Value}   (H:CZ c R r):∀(n:Nat){y3:Int}{g h:AH},CY N v1 x0 x1 n y3=some r→Sep c g h []→ab (rI .i64) 1 g bI x0→tk w0 g cA x1→eS (α:=Value) (fun k a=>I5 w0 E R (vi v1) bI cA k a) n (vi y3) h:=by
 intro n
 induction n with
 | zero =>
  intro y3  g h M S cw c7
  unfold CY at M;cases M
 | succ n ih =>
  intro y3  g h M S cw c7
  exact aoQ M S cw c7  (Sub.refl g) (fun M2 sub S2  =>ih M2 S2 (ab.mono cw (du .i64) sub) (tk.mono c7 sub)) H
theorem aoS {w0:World}{g h:AH}{Q:CR→AH→Prop}{r:Int}{N:Nat}{x0:List Int}{x1:Int→Option Bool}{bI cA:Value}(M:GI N x0 x1=some r) (sg:Sub g h) (ok:h.Ok) (cw:ab (rI .i64) 1 g bI x0) (c7:tk w0 g cA x1) (H:CZ ⟨g,h,[]⟩ (fun v=>Q (.ret v)) r):WF PP w0 OL [bI,cA] h Q:=by
 refine ahU _ _ ?_
 have S:=Sep.start sg ok
 unfold YK
 unfold GI at M
 refine cw.len ?_
 exact⟨N,aoR  H _ M S cw c7⟩
def GL (N:Nat) (x0:List Int) (x1:Int→Option Bool):Option Bool :=
(GI N x0 x1).bind fun gG =>
 some (decide (0≤gG))
abbrev aoT (c:Cx) (R:Value→W) (r:Bool):Prop:=∀(g' h':AH),Sep c g' h' []→R (.bool r) h'
theorem aoU {w0:World}{g h:AH}{Q:CR→AH→Prop}{r:Bool}{N:Nat}{x0:List Int}{x1:Int→Option Bool}{bI cA:Value}(M:GL N x0 x1=some r) (sg:Sub g h) (ok:h.Ok) (cw:ab (rI .i64) 1 g bI x0) (c7:tk w0 g cA x1) (H:aoT ⟨g,h,[]⟩ (fun v=>Q (.ret v)) r):WF PP w0 OM [bI,cA] h Q:=by
 refine ahW _ _ ?_
 have S:=Sep.start sg ok
 unfold YL
 unfold GL at M
 obtain⟨gG,mv,M⟩:=bind_some M
 refine aoS mv S.sub S.ok cw c7 (fun _ h  S1  => ?_)
 have S:=S.dB S1
 refine pA.2 ?_
 cases M
 exact H _ _  S.bH
def V2 (N:Nat) (y3:Int) (dU:Int→Option Int):Option Int :=
 dU (bD .i64 (y3+1))
def V3 (N:Nat) (x0:List aK) (y3:Int) (x1:aK→Option Bool) (dU:Int→Option Int):Option Int :=
(ix x0 y3).bind fun gG =>
(x1 gG).bind fun eM =>
 bif eM then(
 some y3)else(
 V2 N y3 dU)
def V4 (N:Nat)   :Option Int :=
 some (-1)
def V5 (N:Nat) (v1:Int) (x0:List aK) (x1:aK→Option Bool) (y3:Int) (dU:Int→Option Int):Option Int :=
 bif (decide (y3<v1))then(
 V3 N x0 y3 x1 dU)else(
 V4 N)
def C0 (N:Nat) (v1:Int) (x0:List aK) (x1:aK→Option Bool)  :Nat→Int→Option Int
 | 0,_=>none
 | n+1,y3=>V5 N v1 x0 x1 y3  (fun ag=>C0 N v1 x0 x1 n ag)
def C1 (N:Nat) (x0:List aK) (x1:aK→Option Bool):Option Int :=
 C0 N (x0.length:Int) x0 x1 N 0
abbrev C2 (c:Cx) (R:Value→W) (r:Int):Prop:=∀(g' h':AH),Sep c g' h' []→R (vi r) h'
theorem aoV {w0:World}{c:Cx}{g h:AH}{E R:Value→W}{r:Int}{N:Nat}{y3:Int}{k2:Value→W}{dU:Int→Option Int}{iD:AH}(M:V2 N y3 dU=some r) (S:Sep c g h [])  (lf:Sub iD g) (lg:∀{ag:Int}{g2 h2:AH},dU ag=some r→Sub iD g2→Sep c g2 h2 []→k2 (vi ag) h2) (H:C2 c R r):OS w0 E R (vi y3) k2 h:=by
 unfold OS
 unfold V2 at M
 refine fF.2 ?_
 exact lg M lf S
theorem aoW {w0:World}{c:Cx}{g h:AH}{E R:Value→W}{r:Int}{N:Nat}{x0:List aK}{y3:Int}{x1:aK→Option Bool}{bI cA:Value}{k2:Value→W}{dU:Int→Option Int}{iD:AH}(M:V3 N x0 y3 x1 dU=some r) (S:Sep c g h []) (cw:ab aK.rep 3 g bI x0) (c7:rC w0 g cA x1) (lf:Sub iD g) (lg:∀{ag:Int}{g2 h2:AH},dU ag=some r→Sub iD g2→Sep c g2 h2 []→k2 (vi ag) h2) (H:C2 c R r):OT w0 E R bI (vi y3) cA k2 h:=by
 unfold OT
 unfold V3 at M
 obtain⟨gG,mv,M⟩:=bind_some M
 refine ab.idx cw mv (fun Ad GJ vs E_6 GK rp=> ?_)
 cases rp
 refine S.mq GK rfl (by decide) ?_
 obtain⟨eM,l4,M⟩:=bind_some M
 refine c7.2 gG _ _ _ _ _ (Sub.refl _) S.sub S.ok  l4 (fun _ h  S1  => ?_)
 have S:=S.dB S1
 refine bw (fun hc=> ?_) (fun hc=> ?_)
 · have M:=aQ hc M
   cases M
   exact H _ _  S.bH
 · have M:=aS hc M
   exact aoV M S lf lg H
theorem aoX {w0:World}{c:Cx}{g h:AH}{E R:Value→W}{r:Int}{N:Nat}   (M:V4 N  =some r) (S:Sep c g h [])   (H:C2 c R r):OQ w0 E R  h:=by
 unfold OQ
 unfold V4 at M
 cases M
 exact H _ _  S.bH
theorem aoY {w0:World}{c:Cx}{g h:AH}{E R:Value→W}{r:Int}{N:Nat}{v1:Int}{x0:List aK}{x1:aK→Option Bool}{y3:Int}{bI cA:Value}{k2:Value→W}{dU:Int→Option Int}{iD:AH}(M:V5 N v1 x0 x1 y3 dU=some r) (S:Sep c g h []) (cw:ab aK.rep 3 g bI x0) (c7:rC w0 g cA x1) (lf:Sub iD g) (lg:∀{ag:Int}{g2 h2:AH},dU ag=some r→Sub iD g2→Sep c g2 h2 []→k2 (vi ag) h2) (H:C2 c R r):Jb w0 E R (vi v1) bI cA k2 (vi y3) h:=by
 unfold Jb
 unfold V5 at M
 refine eF.2 ?_
 refine bw (fun hc=> ?_) (fun hc=> ?_)
 · have M:=aQ hc M
   exact aoW M S cw c7 lf lg H
 · have M:=aS hc M
   exact aoX M S  H
theorem aoZ {w0:World}{c:Cx}{E R:Value→W}{r:Int}{N:Nat}{v1:Int}{x0:List aK}{x1:aK→Option Bool}{bI cA:Value}   (H:C2 c R r):∀(n:Nat){y3:Int}{g h:AH},C0 N v1 x0 x1 n y3=some r→Sep c g h []→ab aK.rep 3 g bI x0→rC w0 g cA x1→eS (α:=Value) (fun k a=>Jb w0 E R (vi v1) bI cA k a) n (vi y3) h:=by
 intro n
 induction n with
 | zero =>
  intro y3  g h M S cw c7
  unfold C0 at M;cases M
 | succ n ih =>
  intro y3  g h M S cw c7
  exact aoY M S cw c7  (Sub.refl g) (fun M2 sub S2  =>ih M2 S2 (ab.mono cw aK.mono sub) (rC.mono c7 sub)) H
theorem aeG {w0:World}{g h:AH}{Q:CR→AH→Prop}{r:Int}{N:Nat}{x0:List aK}{x1:aK→Option Bool}{bI cA:Value}(M:C1 N x0 x1=some r) (sg:Sub g h) (ok:h.Ok) (cw:ab aK.rep 3 g bI x0) (c7:rC w0 g cA x1) (H:C2 ⟨g,h,[]⟩ (fun v=>Q (.ret v)) r):WF PP w0 Jc [bI,cA] h Q:=by
 refine ah4 _ _ ?_
 have S:=Sep.start sg ok
 unfold YS
 unfold C1 at M
 refine cw.len ?_
 exact⟨N,aoZ  H _ M S cw c7⟩
def M7 (N:Nat) (x0:List aK) (x1:aK→Option Bool):Option Bool :=
(C1 N x0 x1).bind fun gG =>
 some (decide (0≤gG))
abbrev ao0 (c:Cx) (R:Value→W) (r:Bool):Prop:=∀(g' h':AH),Sep c g' h' []→R (.bool r) h'
theorem ao1 {w0:World}{g h:AH}{Q:CR→AH→Prop}{r:Bool}{N:Nat}{x0:List aK}{x1:aK→Option Bool}{bI cA:Value}(M:M7 N x0 x1=some r) (sg:Sub g h) (ok:h.Ok) (cw:ab aK.rep 3 g bI x0) (c7:rC w0 g cA x1) (H:ao0 ⟨g,h,[]⟩ (fun v=>Q (.ret v)) r):WF PP w0 Pc [bI,cA] h Q:=by
 refine ais _ _ ?_
 have S:=Sep.start sg ok
 unfold Zm
 unfold M7 at M
 obtain⟨gG,mv,M⟩:=bind_some M
 refine aeG mv S.sub S.ok cw c7 (fun _ h  S1  => ?_)
 have S:=S.dB S1
 refine pA.2 ?_
 cases M
 exact H _ _  S.bH
def C3 (x0:Int) (x1:Int):Option Bool :=
(tl x0 0 (bD .i64 (x1-1))).bind fun gG =>
 some (!gG)
abbrev ao2 (c:Cx) (R:Value→W) (r:Bool):Prop:=∀(g' h':AH),Sep c g' h' []→R (.bool r) h'
theorem ao3 {w0:World}{g h:AH}{Q:CR→AH→Prop}{r:Bool}{x0 x1:Int}{oH:Nat}(M:C3 x0 x1=some r) (sg:Sub g h) (ok:h.Ok) (pI:g.bE oH 0 [(vi x1)]) (H:ao2 ⟨g,h,[]⟩ (fun v=>Q (.ret v)) r):WF PP w0 Jn [(vi x0),(au oH 0)] h Q:=by
 refine aio _ _ ?_
 have S:=Sep.start sg ok
 unfold Zk
 unfold C3 at M
 refine S.eH (pI 0 _ rfl) ?_
 refine lZ.2 ?_
 obtain⟨gG,mv,M⟩:=bind_some M
 refine CU mv S.sub S.ok (fun _ h  S1  => ?_)
 have S:=S.dB S1
 refine gN.2 ?_
 cases M
 exact H _ _  S.bH
def GM (v1:aK) (x1:Int) (cx:Bool)  :Option Bool :=
 bif cx then(
 some true)else(
(tl v1.eg 0 (bD .i64 (x1-1))).bind fun aR =>
 some (!aR))
def GN (v1:aK) (x1:Int) (v10:Bool)  :Option Bool :=
 bif v10 then(
 GM v1 x1 true)else(
 GM v1 x1 (decide (x1<v1.fg)))
def C4 (x0:aK) (x1:Int):Option Bool :=
 bif (decide (x0.eD<0))then(
 GN x0 x1 true)else(
 GN x0 x1 (decide (x0.fg≤x0.eD)))
abbrev V6 (c:Cx) (R:Value→W) (r:Bool):Prop:=∀(g' h':AH),Sep c g' h' []→R (.bool r) h'
theorem aeH {w0:World}{c:Cx}{g h:AH}{E R:Value→W}{r:Bool}{v1:aK}{x1:Int}{cx:Bool}{al oH:Nat}  (M:GM v1 x1 cx=some r) (S:Sep c g h [.bx al [(vi v1.eD),(vi v1.fg),(vi v1.eg)]]) (pI:g.bE oH 0 [(vi x1)])  (H:V6 c R r):Pa w0 E R (au al 0) (au oH 0) (.bool cx) h:=by
 unfold Pa
 unfold GM at M
 cases hc:cx
 · have M:=aS hc M
   refine ax rfl ?_
   refine bC.2 ?_
   refine ax rfl ?_
   refine S.bz 0 rfl rfl ?_
   refine ax rfl ?_
   refine S.eH (pI 0 _ rfl) ?_
   refine ax rfl ?_
   refine lZ.2 ?_
   refine ax rfl ?_
   obtain⟨aR,jc,M⟩:=bind_some M
   refine CU jc S.sub S.ok (fun _ h  S1  => ?_)
   have S:=S.dB S1
   refine ax rfl ?_
   refine gN.2 ?_
   refine bf.2 ?_
   cases M
   exact H _ _  S.bH
 · have M:=aQ hc M
   refine aA (by decide) ?_
   refine aA (by decide) ?_
   refine aA (by decide) ?_
   refine aA (by decide) ?_
   refine aA (by decide) ?_
   refine aA (by decide) ?_
   refine bf.2 ?_
   cases M
   exact H _ _  S.bH
theorem aeI {w0:World}{c:Cx}{g h:AH}{E R:Value→W}{r:Bool}{v1:aK}{x1:Int}{v10:Bool}{al oH:Nat}  (M:GN v1 x1 v10=some r) (S:Sep c g h [.bx al [(vi v1.eD),(vi v1.fg),(vi v1.eg)]]) (pI:g.bE oH 0 [(vi x1)])  (H:V6 c R r):Pb w0 E R (au al 0) (au oH 0) (.bool v10) h:=by
 unfold Pb
 unfold GN at M
 cases hc:v10
 · have M:=aS hc M
   refine ax rfl ?_
   refine bC.2 ?_
   refine ax rfl ?_
   refine S.bz 0 rfl rfl ?_
   refine ax rfl ?_
   refine S.eH (pI 0 _ rfl) ?_
   refine ax rfl ?_
   refine nh.2 ?_
   refine bf.2 ?_
   exact aeH M S pI H
 · have M:=aQ hc M
   refine aA (by decide) ?_
   refine aA (by decide) ?_
   refine aA (by decide) ?_
   refine aA (by decide) ?_
   refine bf.2 ?_
   exact aeH M S pI H
theorem ao4 {w0:World}{g h:AH}{Q:CR→AH→Prop}{r:Bool}{x0:aK}{x1:Int}{oH:Nat}(M:C4 x0 x1=some r) (sg:Sub g h) (ok:h.Ok) (pI:g.bE oH 0 [(vi x1)]) (H:V6 ⟨g,h,[]⟩ (fun v=>Q (.ret v)) r):WF PP w0 Jo [(.agg ⟨[(vi x0.eD),(vi x0.fg),(vi x0.eg)]⟩),(au oH 0)] h Q:=by
 refine aiq _ _ ?_
 have S:=Sep.start sg ok
 unfold Zl
 unfold C4 at M
 refine S.box [(vi x0.eD),(vi x0.fg),(vi x0.eg)] rfl (aa rfl (aa rfl (aa rfl rfl))) (fun jl h S=> ?_)
 refine bC.2 ?_
 refine S.bz 0 rfl rfl ?_
 refine eF.2 ?_
 cases hc:(decide (x0.eD<0))
 · have M:=aS hc M
   refine ax rfl ?_
   refine bC.2 ?_
   refine ax rfl ?_
   refine S.bz 0 rfl rfl ?_
   refine ax rfl ?_
   refine bC.2 ?_
   refine ax rfl ?_
   refine S.bz 0 rfl rfl ?_
   refine ax rfl ?_
   refine pA.2 ?_
   refine bf.2 ?_
   exact aeI M S pI H
 · have M:=aQ hc M
   refine aA (by decide) ?_
   refine aA (by decide) ?_
   refine aA (by decide) ?_
   refine aA (by decide) ?_
   refine aA (by decide) ?_
   refine bf.2 ?_
   exact aeI M S pI H
def V7 (N:Nat) (aL:Int) (ec:ak) (eQ:Int→Option Bool):Option Bool :=
 eQ (bD .i64 (aL+1))
def C5 (N:Nat) (aL:Int) (j8:Bool) (ec:ak) (eQ:Int→Option Bool):Option Bool :=
 bif j8 then(
 some false)else(
 V7 N aL ec eQ)
def V8 (N:Nat) (cm:List aq) (aL:Int) (v5:Int) (ec:ak) (eQ:Int→Option Bool):Option Bool :=
(ix cm aL).bind fun jb =>
(CW jb.aI).bind fun gO =>
 bif (!gO.2)then(
 C5 N aL true ec eQ)else(
(Aa N jb).bind fun M8 =>
(GL N M8 (fun a0=>C3 a0 v5)).bind fun tg =>
 C5 N aL tg ec eQ)
def C6 (N:Nat) (v1:ak) (v5:Int)  :Option Bool :=
(M7 N v1.aM (fun a0=>C4 a0 v5)).bind fun GO =>
 some (!GO)
def V9 (N:Nat) (cN:Int) (cm:List aq) (v5:Int) (v1:ak) (aL:Int) (eQ:Int→Option Bool):Option Bool :=
 bif (decide (aL<cN))then(
 V8 N cm aL v5 v1 eQ)else(
 C6 N v1 v5)
def GP (N:Nat) (cN:Int) (cm:List aq) (v5:Int) (v1:ak)  :Nat→Int→Option Bool
 | 0,_=>none
 | n+1,aL=>V9 N cN cm v5 v1 aL  (fun ag=>GP N cN cm v5 v1 n ag)
def GQ (N:Nat) (v1:ak) (v5:Int)  :Option Bool :=
 GP N (v1.ae.length:Int) v1.ae v5 v1 N 0
def GR (N:Nat) (v1:ak) (v5:Int) (v53:Bool)  :Option Bool :=
 bif v53 then(
 some false)else(
 GQ N v1 v5)
def GS (N:Nat) (v1:ak) (v5:Int) (gq:Bool)  :Option Bool :=
 bif gq then(
 GR N v1 v5 true)else(
(tl v1.az 0 200).bind fun eM =>
 GR N v1 v5 (!eM))
def GU (N:Nat) (v1:ak) (v5:Int) (jq:Bool)  :Option Bool :=
 bif jq then(
 GS N v1 v5 true)else(
(tl v1.ay 0 200).bind fun iP =>
 GS N v1 v5 (!iP))
def C7 (N:Nat) (x0:ak):Option Bool :=
(tl (x0.ae.length:Int) 1 600).bind fun C8 =>
 bif (!C8)then(
 GU N x0 (x0.ae.length:Int) true)else(
 GU N x0 (x0.ae.length:Int) (decide (40<(x0.aM.length:Int))))
abbrev rF (c:Cx) (R:Value→W) (r:Bool):Prop:=∀(g' h':AH),Sep c g' h' []→R (.bool r) h'
theorem ao5 {w0:World}{c:Cx}{g h:AH}{E R:Value→W}{r:Bool}{N:Nat}{aL:Int}{ec:ak}{xi:Nat}{rG rH:Value}{fj:Value→W}{eQ:Int→Option Bool}{j0:AH}(M:V7 N aL ec eQ=some r) (S:Sep c g h [.bx xi [(.string ec.aB),(.string ec.aC),(vi ec.fArgs),(vi ec.ay),(vi ec.az),rG,rH]]) (Ae:ab aq.rep 4 g rG ec.ae) (Af:ab aK.rep 3 g rH ec.aM) (lh:Sub j0 g) (nj:∀{ag:Int}{g2 h2:AH},eQ ag=some r→Sub j0 g2→Sep c g2 h2 [.bx xi [(.string ec.aB),(.string ec.aC),(vi ec.fArgs),(vi ec.ay),(vi ec.az),rG,rH]]→fj (vi ag) h2) (H:rF c R r):Pe w0 E R (vi aL) fj h:=by
 unfold Pe
 unfold V7 at M
 refine fF.2 ?_
 exact nj M lh S
theorem aeJ {w0:World}{c:Cx}{g h:AH}{E R:Value→W}{r:Bool}{N:Nat}{aL:Int}{j8:Bool}{ec:ak}{xi:Nat}{rG rH:Value}{fj:Value→W}{eQ:Int→Option Bool}{j0:AH}(M:C5 N aL j8 ec eQ=some r) (S:Sep c g h [.bx xi [(.string ec.aB),(.string ec.aC),(vi ec.fArgs),(vi ec.ay),(vi ec.az),rG,rH]]) (Ae:ab aq.rep 4 g rG ec.ae) (Af:ab aK.rep 3 g rH ec.aM) (lh:Sub j0 g) (nj:∀{ag:Int}{g2 h2:AH},eQ ag=some r→Sub j0 g2→Sep c g2 h2 [.bx xi [(.string ec.aB),(.string ec.aC),(vi ec.fArgs),(vi ec.ay),(vi ec.az),rG,rH]]→fj (vi ag) h2) (H:rF c R r):Pf w0 E R (vi aL) fj (.bool j8) h:=by
 unfold Pf
 unfold C5 at M
 refine bw (fun hc=> ?_) (fun hc=> ?_)
 · have M:=aQ hc M
   cases M
   exact H _ _  S.bH
 · have M:=aS hc M
   exact ao5 M S Ae Af lh nj H
theorem ao6 {w0:World}{c:Cx}{g h:AH}{E R:Value→W}{r:Bool}{N:Nat}{cm:List aq}{aL v5:Int}{ec:ak}{xj:Value}{ju xi:Nat}{rG rH:Value}{fj:Value→W}{eQ:Int→Option Bool}{j0:AH}(M:V8 N cm aL v5 ec eQ=some r) (S:Sep c g h [.bx xi [(.string ec.aB),(.string ec.aC),(vi ec.fArgs),(vi ec.ay),(vi ec.az),rG,rH]]) (vq:ab aq.rep 4 g xj cm) (qC:g.bE ju 0 [(vi v5)]) (Ae:ab aq.rep 4 g rG ec.ae) (Af:ab aK.rep 3 g rH ec.aM) (lh:Sub j0 g) (nj:∀{ag:Int}{g2 h2:AH},eQ ag=some r→Sub j0 g2→Sep c g2 h2 [.bx xi [(.string ec.aB),(.string ec.aC),(vi ec.fArgs),(vi ec.ay),(vi ec.az),rG,rH]]→fj (vi ag) h2) (H:rF c R r):Pg w0 E R xj (vi aL) (au ju 0) fj h:=by
 unfold Pg
 unfold V8 at M
 obtain⟨jb,Vw,M⟩:=bind_some M
 refine ab.idx vq Vw (fun aeK awv vs aeL Wa rp=> ?_)
 cases rp
 refine S.mq Wa rfl (by decide) ?_
 refine S.alloc (l:=[(vi 0),(vi 0),(vi 0),(vi 0)]) (aa rfl (aa rfl (aa rfl (aa rfl rfl)))) (fun ao7 h S=> ?_)
 refine S.dv [(vi jb.aI),(vi jb.fA),(vi jb.fB),(vi jb.fC)] [(vi jb.aI),(vi jb.fA),(vi jb.fB),(vi jb.fC)] rfl rfl (aa rfl (aa rfl (aa rfl (aa rfl rfl)))) (Nat.le_of_ble_eq_true rfl) rfl (fun h S=> ?_)
 refine bC.2 ?_
 refine S.bz 0 rfl rfl ?_
 obtain⟨gO,zS,M⟩:=bind_some M
 refine GH jb.aI S.sub S.ok zS (fun _ h  S1  => ?_)
 have S:=S.dB S1
 refine(eY rfl).2 ?_
 refine(eY rfl).2 ?_
 refine S.alloc (l:=[(.string (⟨⟨[]⟩⟩:ByteArray)),(vi 0),(vi 0),(vi 0),(vi 0),(vi 0),(vi 0),(.bool false),(.bool false)]) (aa rfl (aa rfl (aa rfl (aa rfl (aa rfl (aa rfl (aa rfl (aa rfl (aa rfl rfl))))))))) (fun ao8 h S=> ?_)
 refine S.dv [(.string gO.1.rE),(vi gO.1.eT.e0),(vi gO.1.eT.e1),(vi gO.1.eT.e2),(vi gO.1.lb),(vi gO.1.dY.e0),(vi gO.1.dY.e1),(.bool gO.1.lK),(.bool gO.1.l5)] [(.string gO.1.rE),(vi gO.1.eT.e0),(vi gO.1.eT.e1),(vi gO.1.eT.e2),(vi gO.1.lb),(vi gO.1.dY.e0),(vi gO.1.dY.e1),(.bool gO.1.lK),(.bool gO.1.l5)] rfl rfl (aa rfl (aa rfl (aa rfl (aa rfl (aa rfl (aa rfl (aa rfl (aa rfl (aa rfl rfl))))))))) (Nat.le_of_ble_eq_true rfl) rfl (fun h S=> ?_)
 refine gN.2 ?_
 cases hc:(!gO.2)
 · have M:=aS hc M
   refine ax rfl ?_
   refine S.dc [(vi jb.aI),(vi jb.fA),(vi jb.fB),(vi jb.fC)] 1 rfl rfl rfl (by decide) ?_
   refine ax rfl ?_
   obtain⟨M8,ao9,M⟩:=bind_some M
   refine aeF ao9 S.sub S.ok (fun g h aww S1 apa=> ?_)
   have vq:=ab.mono vq aq.mono S1.bF
   have qC:=S1.bF.bE qC
   have Wa:=S1.bF.bE Wa
   have Ae:=ab.mono Ae aq.mono S1.bF
   have Af:=ab.mono Af aK.mono S1.bF
   have lh:=Sub.trans lh S1.bF
   have S:=S.pD S1
   refine ax rfl ?_
   refine(L3 (by simp)).2 ?_
   refine ax rfl ?_
   have apb:tk w0 g (.func (.func Jn) ⟨[]⟩ ⟨[(au ju 0)]⟩) (fun a0=>C3 a0 v5):=⟨rfl,fun a0 r E K g2 h2 s1 s2 s3  m1 k1=>ao3 m1 s2 s3 (Sub.bE s1 qC) k1⟩
   obtain⟨tg,Gt,M⟩:=bind_some M
   refine aoU Gt S.sub S.ok apa apb (fun _ h  S1  => ?_)
   have S:=S.dB S1
   refine bf.2 ?_
   have S:=S.f2
   have S:=S.t1
   exact aeJ M S Ae Af lh nj H
 · have M:=aQ hc M
   refine aA (by decide) ?_
   refine aA (by decide) ?_
   refine aA (by decide) ?_
   refine aA (by decide) ?_
   refine bf.2 ?_
   have S:=S.f2
   have S:=S.t1
   exact aeJ M S Ae Af lh nj H
theorem apc {w0:World}{c:Cx}{g h:AH}{E R:Value→W}{r:Bool}{N:Nat}{v1:ak}{v5:Int}{al:Nat}{av aw:Value}{ju:Nat}  (M:C6 N v1 v5=some r) (S:Sep c g h [.bx al [(.string v1.aB),(.string v1.aC),(vi v1.fArgs),(vi v1.ay),(vi v1.az),av,aw]]) (aG:ab aq.rep 4 g av v1.ae) (aJ:ab aK.rep 3 g aw v1.aM) (qC:g.bE ju 0 [(vi v5)])  (H:rF c R r):Pd w0 E R (au al 0) (au ju 0) h:=by
 unfold Pd
 unfold C6 at M
 refine bC.2 ?_
 refine S.bz 0 rfl rfl ?_
 refine(L3 (by simp)).2 ?_
 have apd:rC w0 g (.func (.func Jo) ⟨[]⟩ ⟨[(au ju 0)]⟩) (fun a0=>C4 a0 v5):=⟨rfl,fun a0 r E K g2 h2 s1 s2 s3  m1 k1=>ao4 m1 s2 s3 (Sub.bE s1 qC) k1⟩
 obtain⟨GO,Wb,M⟩:=bind_some M
 refine ao1 Wb S.sub S.ok aJ apd (fun _ h  S1  => ?_)
 have S:=S.dB S1
 refine gN.2 ?_
 cases M
 exact H _ _  S.bH
theorem ape {w0:World}{c:Cx}{g h:AH}{E R:Value→W}{r:Bool}{N:Nat}{cN:Int}{cm:List aq}{v5:Int}{v1:ak}{aL:Int}{xj:Value}{ju al:Nat}{av aw:Value}{fj:Value→W}{eQ:Int→Option Bool}{j0:AH}(M:V9 N cN cm v5 v1 aL eQ=some r) (S:Sep c g h [.bx al [(.string v1.aB),(.string v1.aC),(vi v1.fArgs),(vi v1.ay),(vi v1.az),av,aw]]) (vq:ab aq.rep 4 g xj cm) (qC:g.bE ju 0 [(vi v5)]) (aG:ab aq.rep 4 g av v1.ae) (aJ:ab aK.rep 3 g aw v1.aM) (lh:Sub j0 g) (nj:∀{ag:Int}{g2 h2:AH},eQ ag=some r→Sub j0 g2→Sep c g2 h2 [.bx al [(.string v1.aB),(.string v1.aC),(vi v1.fArgs),(vi v1.ay),(vi v1.az),av,aw]]→fj (vi ag) h2) (H:rF c R r):Jp w0 E R (vi cN) xj (au ju 0) (au al 0) fj (vi aL) h:=by
 unfold Jp
 unfold V9 at M
 refine eF.2 ?_
 refine bw (fun hc=> ?_) (fun hc=> ?_)
 · have M:=aQ hc M
   exact ao6 M S vq qC aG aJ lh nj H
 · have M:=aS hc M
   exact apc M S aG aJ qC H
theorem apf {w0:World}{c:Cx}{E R:Value→W}{r:Bool}{N:Nat}{cN:Int}{cm:List aq}{v5:Int}{v1:ak}{xj:Value}{ju al:Nat}{av aw:Value}   (H:rF c R r):∀(n:Nat){aL:Int}{g h:AH},GP N cN cm v5 v1 n aL=some r→Sep c g h [.bx al [(.string v1.aB),(.string v1.aC),(vi v1.fArgs),(vi v1.ay),(vi v1.az),av,aw]]→ab aq.rep 4 g xj cm→g.bE ju 0 [(vi v5)]→ab aq.rep 4 g av v1.ae→ab aK.rep 3 g aw v1.aM→eS (α:=Value) (fun k a=>Jp w0 E R (vi cN) xj (au ju 0) (au al 0) k a) n (vi aL) h:=by
 intro n
 induction n with
 | zero =>
  intro aL  g h M S vq qC aG aJ
  unfold GP at M;cases M
 | succ n ih =>
  intro aL  g h M S vq qC aG aJ
  exact ape M S vq qC aG aJ  (Sub.refl g) (fun M2 sub S2  =>ih M2 S2 (ab.mono vq aq.mono sub) (Sub.bE sub qC) (ab.mono aG aq.mono sub) (ab.mono aJ aK.mono sub)) H
theorem apg {w0:World}{c:Cx}{g h:AH}{E R:Value→W}{r:Bool}{N:Nat}{v1:ak}{v5:Int}{al:Nat}{av aw:Value}{ju:Nat}  (M:GQ N v1 v5=some r) (S:Sep c g h [.bx al [(.string v1.aB),(.string v1.aC),(vi v1.fArgs),(vi v1.ay),(vi v1.az),av,aw],.bx ju [(vi v5)]]) (aG:ab aq.rep 4 g av v1.ae) (aJ:ab aK.rep 3 g aw v1.aM)  (H:rF c R r):Ph w0 E R (au al 0) (au ju 0) h:=by
 unfold Ph
 unfold GQ at M
 refine bC.2 ?_
 refine S.bz 0 rfl rfl ?_
 refine aG.len ?_
 have S:=S.f1
 obtain⟨g,sg,S,r_9⟩:=S.th
 have aG:=ab.mono aG aq.mono sg
 have aJ:=ab.mono aJ aK.mono sg
 exact⟨N,apf  H _ M S aG r_9 aG aJ⟩
theorem aeM {w0:World}{c:Cx}{g h:AH}{E R:Value→W}{r:Bool}{N:Nat}{v1:ak}{v5:Int}{v53:Bool}{al:Nat}{av aw:Value}{ju:Nat}  (M:GR N v1 v5 v53=some r) (S:Sep c g h [.bx al [(.string v1.aB),(.string v1.aC),(vi v1.fArgs),(vi v1.ay),(vi v1.az),av,aw],.bx ju [(vi v5)]]) (aG:ab aq.rep 4 g av v1.ae) (aJ:ab aK.rep 3 g aw v1.aM)  (H:rF c R r):Pj w0 E R (au al 0) (au ju 0) (.bool v53) h:=by
 unfold Pj
 unfold GR at M
 refine bw (fun hc=> ?_) (fun hc=> ?_)
 · have M:=aQ hc M
   cases M
   exact H _ _  S.bH
 · have M:=aS hc M
   exact apg M S aG aJ H
theorem aeN {w0:World}{c:Cx}{g h:AH}{E R:Value→W}{r:Bool}{N:Nat}{v1:ak}{v5:Int}{gq:Bool}{al:Nat}{av aw:Value}{ju:Nat}  (M:GS N v1 v5 gq=some r) (S:Sep c g h [.bx al [(.string v1.aB),(.string v1.aC),(vi v1.fArgs),(vi v1.ay),(vi v1.az),av,aw],.bx ju [(vi v5)]]) (aG:ab aq.rep 4 g av v1.ae) (aJ:ab aK.rep 3 g aw v1.aM)  (H:rF c R r):Pk w0 E R (au al 0) (au ju 0) (.bool gq) h:=by
 unfold Pk
 unfold GS at M
 cases hc:gq
 · have M:=aS hc M
   refine ax rfl ?_
   refine bC.2 ?_
   refine ax rfl ?_
   refine S.bz 0 rfl rfl ?_
   refine ax rfl ?_
   obtain⟨eM,l4,M⟩:=bind_some M
   refine CU l4 S.sub S.ok (fun _ h  S1  => ?_)
   have S:=S.dB S1
   refine ax rfl ?_
   refine gN.2 ?_
   refine bf.2 ?_
   exact aeM M S aG aJ H
 · have M:=aQ hc M
   refine aA (by decide) ?_
   refine aA (by decide) ?_
   refine aA (by decide) ?_
   refine aA (by decide) ?_
   refine bf.2 ?_
   exact aeM M S aG aJ H
theorem aeO {w0:World}{c:Cx}{g h:AH}{E R:Value→W}{r:Bool}{N:Nat}{v1:ak}{v5:Int}{jq:Bool}{al:Nat}{av aw:Value}{ju:Nat}  (M:GU N v1 v5 jq=some r) (S:Sep c g h [.bx al [(.string v1.aB),(.string v1.aC),(vi v1.fArgs),(vi v1.ay),(vi v1.az),av,aw],.bx ju [(vi v5)]]) (aG:ab aq.rep 4 g av v1.ae) (aJ:ab aK.rep 3 g aw v1.aM)  (H:rF c R r):Pl w0 E R (au al 0) (au ju 0) (.bool jq) h:=by
 unfold Pl
 unfold GU at M
 cases hc:jq
 · have M:=aS hc M
   refine ax rfl ?_
   refine bC.2 ?_
   refine ax rfl ?_
   refine S.bz 0 rfl rfl ?_
   refine ax rfl ?_
   obtain⟨iP,oG,M⟩:=bind_some M
   refine CU oG S.sub S.ok (fun _ h  S1  => ?_)
   have S:=S.dB S1
   refine ax rfl ?_
   refine gN.2 ?_
   refine bf.2 ?_
   exact aeN M S aG aJ H
 · have M:=aQ hc M
   refine aA (by decide) ?_
   refine aA (by decide) ?_
   refine aA (by decide) ?_
   refine aA (by decide) ?_
   refine bf.2 ?_
   exact aeN M S aG aJ H
theorem aeP {w0:World}{g h:AH}{Q:CR→AH→Prop}{r:Bool}{N:Nat}{x0:ak}{cU cV:Value}(M:C7 N x0=some r) (sg:Sub g h) (ok:h.Ok) (cv:ab aq.rep 4 g cU x0.ae) (cZ:ab aK.rep 3 g cV x0.aM) (H:rF ⟨g,h,[]⟩ (fun v=>Q (.ret v)) r):WF PP w0 Jq [(.agg ⟨[(.string x0.aB),(.string x0.aC),(vi x0.fArgs),(vi x0.ay),(vi x0.az),cU,cV]⟩)] h Q:=by
 refine aiu _ ?_
 have S:=Sep.start sg ok
 unfold Zn
 unfold C7 at M
 refine S.box [(.string x0.aB),(.string x0.aC),(vi x0.fArgs),(vi x0.ay),(vi x0.az),cU,cV] rfl (aa rfl (aa rfl (aa rfl (aa rfl (aa rfl (aa cv.one (aa cZ.one rfl))))))) (fun jl h S=> ?_)
 refine bC.2 ?_
 refine S.bz 0 rfl rfl ?_
 refine cv.len ?_
 refine S.alloc (l:=[(vi 0)]) (aa rfl rfl) (fun CV h S=> ?_)
 refine S.dv [(vi (x0.ae.length:Int))] [(vi (x0.ae.length:Int))] rfl rfl (aa rfl rfl) (Nat.le_of_ble_eq_true rfl) rfl (fun h S=> ?_)
 refine S.bz 0 rfl rfl ?_
 obtain⟨C8,Wc,M⟩:=bind_some M
 refine CU Wc S.sub S.ok (fun _ h  S1  => ?_)
 have S:=S.dB S1
 refine gN.2 ?_
 cases hc:(!C8)
 · have M:=aS hc M
   refine ax rfl ?_
   refine bC.2 ?_
   refine ax rfl ?_
   refine S.bz 1 rfl rfl ?_
   refine ax rfl ?_
   refine cZ.len ?_
   refine ax rfl ?_
   refine nh.2 ?_
   refine bf.2 ?_
   have S:=S.f1
   exact aeO M S cv cZ H
 · have M:=aQ hc M
   refine aA (by decide) ?_
   refine aA (by decide) ?_
   refine aA (by decide) ?_
   refine aA (by decide) ?_
   refine bf.2 ?_
   have S:=S.f1
   exact aeO M S cv cZ H
def tn (x0:Int) (x1:Int) (x2:Int):Option Bool :=
 bif (decide (x1≤x0))then(
 some (decide (x0≤x2)))else(
 some false)
abbrev aph (c:Cx) (R:Value→W) (r:Bool):Prop:=∀(g' h':AH),Sep c g' h' []→R (.bool r) h'
theorem C9 {w0:World}{g h:AH}{Q:CR→AH→Prop}{r:Bool}{x0 x1 x2:Int}(M:tn x0 x1 x2=some r) (sg:Sub g h) (ok:h.Ok)  (H:aph ⟨g,h,[]⟩ (fun v=>Q (.ret v)) r):WF PP w0 vZ [(vi x0),(vi x1),(vi x2)] h Q:=by
 refine aiK _ _ _ ?_
 have S:=Sep.start sg ok
 unfold ZC
 unfold tn at M
 refine pz.2 ?_
 cases hc:(decide (x1≤x0))
 · have M:=aS hc M
   refine aA (by decide) ?_
   refine aA (by decide) ?_
   refine aA (by decide) ?_
   refine bf.2 ?_
   cases M
   exact H _ _  S.bH
 · have M:=aQ hc M
   refine ax rfl ?_
   refine ax rfl ?_
   refine ax rfl ?_
   refine pz.2 ?_
   refine bf.2 ?_
   cases M
   exact H _ _  S.bH
def M9 (v1:cP)  :Option (cP×Bool) :=
 some ((cP.mk (fb.mk 0 0 0) 0 (fH.mk 0 0) false),false)
def Da (v1:cP) (x0:Int) (o4:Bool)  :Option (cP×Bool) :=
 bif o4 then(
 some ((cP.mk (fb.mk 1 1 1) 1 (fH.mk 2 3) false),true))else(
 bif (decide (x0=17))then(
 some ((cP.mk (fb.mk 1 2 5) 1 (fH.mk 2 0) true),true))else(
 bif (decide (x0=18))then(
 some ((cP.mk (fb.mk 5 1 0) 0 (fH.mk 2 0) false),true))else(
 bif (decide (x0=19))then(
 some ((cP.mk (fb.mk 6 1 0) 0 (fH.mk 2 0) false),true))else(
 bif (decide (x0=20))then(
 some ((cP.mk (fb.mk 7 2 8) 1 (fH.mk 2 0) true),true))else(
 bif (decide (x0=21))then(
 some ((cP.mk (fb.mk 1 9 4) 1 (fH.mk 0 0) true),true))else(
 bif (decide (x0=22))then(
 some ((cP.mk (fb.mk 1 10 0) 0 (fH.mk 1 0) true),true))else(
 bif (decide (x0=23))then(
 some ((cP.mk (fb.mk 2 0 0) 0 (fH.mk 1 0) true),true))else(
 bif (decide (x0=24))then(
 some ((cP.mk (fb.mk 11 0 0) 0 (fH.mk 0 0) false),true))else(
 bif (decide (x0=25))then(
 some ((cP.mk (fb.mk 1 11 0) 0 (fH.mk 1 0) false),true))else(
 bif (decide (x0=26))then(
 some ((cP.mk (fb.mk 12 0 0) 0 (fH.mk 0 0) true),true))else(
 bif (decide (x0=27))then(
 some ((cP.mk (fb.mk 0 0 0) 0 (fH.mk 0 0) true),true))else(
 bif (decide (x0=28))then(
 some ((cP.mk (fb.mk 2 0 0) 0 (fH.mk 1 0) false),true))else(
 bif (decide (x0=29))then(
 some ((cP.mk (fb.mk 1 0 0) 0 (fH.mk 1 0) false),true))else(
 bif (decide (x0=30))then(
 some ((cP.mk (fb.mk 1 0 0) 0 (fH.mk 1 0) true),true))else(
 bif (decide (x0=31))then(
 some ((cP.mk (fb.mk 0 0 0) 0 (fH.mk 0 0) false),true))else(
 bif (decide (x0=32))then(
 some ((cP.mk (fb.mk 1 11 0) 0 (fH.mk 1 0) true),true))else(
 bif (decide (x0=33))then(
 some ((cP.mk (fb.mk 1 13 0) 1 (fH.mk 0 0) false),true))else(
 bif (decide (x0=34))then(
 some ((cP.mk (fb.mk 13 1 0) 0 (fH.mk 2 0) false),true))else(
 M9 v1)))))))))))))))))))
def xk (v1:cP) (x0:Int) (Bs:Bool)  :Option (cP×Bool) :=
 bif Bs then(
 some ((cP.mk (fb.mk 1 1 1) 1 (fH.mk 2 3) true),true))else(
 bif (decide (x0=12))then(
 Da v1 x0 (decide (x0=12)))else(
 bif (decide (x0=13))then(
 Da v1 x0 (decide (x0=13)))else(
 Da v1 x0 (decide (x0=14)))))
def Ag (v1:cP) (x0:Int) (aZ:Bool)  :Option (cP×Bool) :=
 bif aZ then(
 some ((cP.mk (fb.mk 1 1 0) 1 (fH.mk 2 0) false),true))else(
 bif (decide (x0=6))then(
 xk v1 x0 (decide (x0=6)))else(
 bif (decide (x0=7))then(
 xk v1 x0 (decide (x0=7)))else(
 bif (decide (x0=8))then(
 xk v1 x0 (decide (x0=8)))else(
 bif (decide (x0=9))then(
 xk v1 x0 (decide (x0=9)))else(
 xk v1 x0 (decide (x0=10)))))))
def GV (v1:cP) (x0:Int) (cn:Bool)  :Option (cP×Bool) :=
 bif cn then(
 some ((cP.mk (fb.mk 1 0 0) 1 (fH.mk 0 0) false),true))else(
 bif (decide (x0=4))then(
 Ag v1 x0 (decide (x0=4)))else(
 bif (decide (x0=11))then(
 Ag v1 x0 (decide (x0=11)))else(
 bif (decide (x0=15))then(
 Ag v1 x0 (decide (x0=15)))else(
 Ag v1 x0 (decide (x0=16))))))
def xm (x0:Int):Option (cP×Bool) :=
 bif (decide (x0=1))then(
 some ((cP.mk (fb.mk 1 3 0) 1 (fH.mk 0 0) false),true))else(
 bif (decide (x0=2))then(
 some ((cP.mk (fb.mk 1 4 0) 1 (fH.mk 0 0) false),true))else(
 bif (decide (x0=3))then(
 GV (cP.mk (fb.mk 0 0 0) 0 (fH.mk 0 0) false) x0 (decide (x0=3)))else(
 GV (cP.mk (fb.mk 0 0 0) 0 (fH.mk 0 0) false) x0 (decide (x0=5)))))
abbrev Db (c:Cx) (R:Value→W) (r:cP×Bool):Prop:=∀(g' h':AH),Sep c g' h' []→R (.tuple ⟨[(.agg ⟨[(vi r.1.cq.e0),(vi r.1.cq.e1),(vi r.1.cq.e2),(vi r.1.ig),(vi r.1.cW.e0),(vi r.1.cW.e1),(.bool r.1.iE)]⟩),(.bool r.2)]⟩) h'
theorem api {w0:World}{c:Cx}{g h:AH}{E R:Value→W}{r:cP×Bool}{v1:cP}{al:Nat}  (M:M9 v1=some r) (S:Sep c g h [.bx al [(vi v1.cq.e0),(vi v1.cq.e1),(vi v1.cq.e2),(vi v1.ig),(vi v1.cW.e0),(vi v1.cW.e1),(.bool v1.iE)]])   (H:Db c R r):P2 w0 E R (au al 0) h:=by
 unfold P2
 unfold M9 at M
 refine(ie (l:=[(vi 0),(vi 0),(vi 0),(vi 0),(vi 0),(vi 0),(.bool false)]) rfl).2 ?_
 refine S.dv [(vi 0),(vi 0),(vi 0),(vi 0),(vi 0),(vi 0),(.bool false)] [(vi 0),(vi 0),(vi 0),(vi 0),(vi 0),(vi 0),(.bool false)] rfl rfl (aa rfl (aa rfl (aa rfl (aa rfl (aa rfl (aa rfl (aa rfl rfl))))))) (Nat.le_of_ble_eq_true rfl) rfl (fun h S=> ?_)
 refine S.dc [(vi 0),(vi 0),(vi 0),(vi 0),(vi 0),(vi 0),(.bool false)] 0 rfl rfl rfl (by decide) ?_
 cases M
 exact H _ _  S.bH
theorem Wd {w0:World}{c:Cx}{g h:AH}{E R:Value→W}{r:cP×Bool}{v1:cP}{x0:Int}{o4:Bool}{al:Nat}  (M:Da v1 x0 o4=some r) (S:Sep c g h [.bx al [(vi v1.cq.e0),(vi v1.cq.e1),(vi v1.cq.e2),(vi v1.ig),(vi v1.cW.e0),(vi v1.cW.e1),(.bool v1.iE)]])   (H:Db c R r):Ee w0 E R (au al 0) (vi x0) (.bool o4) h:=by
 unfold Ee
 unfold Da at M
 refine bw (fun hc=> ?_) (fun hc=> ?_)
 · have M:=aQ hc M
   refine eP [(vi 1),(vi 1),(vi 1)] (by simp only [dW,b9,cb,cd,cf,  List.length_cons,List.length_nil,Nat.reduceAdd,Nat.zero_add,decide_true,Bool.and_self]) (by simp only [List.flatMap_cons,List.flatMap_nil,b9,cb,cd,cf,  List.cons_append,List.nil_append,List.append_nil]) ?_
   refine eP [(vi 2),(vi 3)] (by simp only [dW,b9,cb,cd,cf,  List.length_cons,List.length_nil,Nat.reduceAdd,Nat.zero_add,decide_true,Bool.and_self]) (by simp only [List.flatMap_cons,List.flatMap_nil,b9,cb,cd,cf,  List.cons_append,List.nil_append,List.append_nil]) ?_
   refine(ie (l:=[(vi 1),(vi 1),(vi 1),(vi 1),(vi 2),(vi 3),(.bool false)]) (de (m:=[(vi 1),(vi 1),(vi 1)]) (l2:=[(vi 1),(vi 1),(vi 1),(vi 0),(vi 0),(vi 0),(.bool false)]) rfl rfl (Nat.le_of_ble_eq_true rfl) rfl (de (m:=[(vi 1)]) (l2:=[(vi 1),(vi 1),(vi 1),(vi 1),(vi 0),(vi 0),(.bool false)]) rfl rfl (Nat.le_of_ble_eq_true rfl) rfl (de (m:=[(vi 2),(vi 3)]) (l2:=[(vi 1),(vi 1),(vi 1),(vi 1),(vi 2),(vi 3),(.bool false)]) rfl rfl (Nat.le_of_ble_eq_true rfl) rfl rfl)))).2 ?_
   refine S.dv [(vi 1),(vi 1),(vi 1),(vi 1),(vi 2),(vi 3),(.bool false)] [(vi 1),(vi 1),(vi 1),(vi 1),(vi 2),(vi 3),(.bool false)] rfl rfl (aa rfl (aa rfl (aa rfl (aa rfl (aa rfl (aa rfl (aa rfl rfl))))))) (Nat.le_of_ble_eq_true rfl) rfl (fun h S=> ?_)
   refine S.dc [(vi 1),(vi 1),(vi 1),(vi 1),(vi 2),(vi 3),(.bool false)] 0 rfl rfl rfl (by decide) ?_
   cases M
   exact H _ _  S.bH
 · have M:=aS hc M
   refine cK.2 ?_
   refine bw (fun hc=> ?_) (fun hc=> ?_)
   · have M:=aQ hc M
     refine eP [(vi 1),(vi 2),(vi 5)] (by simp only [dW,b9,cb,cd,cf,  List.length_cons,List.length_nil,Nat.reduceAdd,Nat.zero_add,decide_true,Bool.and_self]) (by simp only [List.flatMap_cons,List.flatMap_nil,b9,cb,cd,cf,  List.cons_append,List.nil_append,List.append_nil]) ?_
     refine eP [(vi 2),(vi 0)] (by simp only [dW,b9,cb,cd,cf,  List.length_cons,List.length_nil,Nat.reduceAdd,Nat.zero_add,decide_true,Bool.and_self]) (by simp only [List.flatMap_cons,List.flatMap_nil,b9,cb,cd,cf,  List.cons_append,List.nil_append,List.append_nil]) ?_
     refine eP [(vi 1),(vi 2),(vi 5),(vi 1),(vi 2),(vi 0),(.bool true)] (by simp only [dW,b9,cb,cd,cf,  List.length_cons,List.length_nil,Nat.reduceAdd,Nat.zero_add,decide_true,Bool.and_self]) (by simp only [List.flatMap_cons,List.flatMap_nil,b9,cb,cd,cf,  List.cons_append,List.nil_append,List.append_nil]) ?_
     refine S.dv [(vi 1),(vi 2),(vi 5),(vi 1),(vi 2),(vi 0),(.bool true)] [(vi 1),(vi 2),(vi 5),(vi 1),(vi 2),(vi 0),(.bool true)] rfl rfl (aa rfl (aa rfl (aa rfl (aa rfl (aa rfl (aa rfl (aa rfl rfl))))))) (Nat.le_of_ble_eq_true rfl) rfl (fun h S=> ?_)
     refine S.dc [(vi 1),(vi 2),(vi 5),(vi 1),(vi 2),(vi 0),(.bool true)] 0 rfl rfl rfl (by decide) ?_
     cases M
     exact H _ _  S.bH
   · have M:=aS hc M
     refine cK.2 ?_
     refine bw (fun hc=> ?_) (fun hc=> ?_)
     · have M:=aQ hc M
       refine eP [(vi 5),(vi 1),(vi 0)] (by simp only [dW,b9,cb,cd,cf,  List.length_cons,List.length_nil,Nat.reduceAdd,Nat.zero_add,decide_true,Bool.and_self]) (by simp only [List.flatMap_cons,List.flatMap_nil,b9,cb,cd,cf,  List.cons_append,List.nil_append,List.append_nil]) ?_
       refine eP [(vi 2),(vi 0)] (by simp only [dW,b9,cb,cd,cf,  List.length_cons,List.length_nil,Nat.reduceAdd,Nat.zero_add,decide_true,Bool.and_self]) (by simp only [List.flatMap_cons,List.flatMap_nil,b9,cb,cd,cf,  List.cons_append,List.nil_append,List.append_nil]) ?_
       refine(ie (l:=[(vi 5),(vi 1),(vi 0),(vi 0),(vi 2),(vi 0),(.bool false)]) (de (m:=[(vi 5),(vi 1),(vi 0)]) (l2:=[(vi 5),(vi 1),(vi 0),(vi 0),(vi 0),(vi 0),(.bool false)]) rfl rfl (Nat.le_of_ble_eq_true rfl) rfl (de (m:=[(vi 2),(vi 0)]) (l2:=[(vi 5),(vi 1),(vi 0),(vi 0),(vi 2),(vi 0),(.bool false)]) rfl rfl (Nat.le_of_ble_eq_true rfl) rfl rfl))).2 ?_
       refine S.dv [(vi 5),(vi 1),(vi 0),(vi 0),(vi 2),(vi 0),(.bool false)] [(vi 5),(vi 1),(vi 0),(vi 0),(vi 2),(vi 0),(.bool false)] rfl rfl (aa rfl (aa rfl (aa rfl (aa rfl (aa rfl (aa rfl (aa rfl rfl))))))) (Nat.le_of_ble_eq_true rfl) rfl (fun h S=> ?_)
       refine S.dc [(vi 5),(vi 1),(vi 0),(vi 0),(vi 2),(vi 0),(.bool false)] 0 rfl rfl rfl (by decide) ?_
       cases M
       exact H _ _  S.bH
     · have M:=aS hc M
       refine cK.2 ?_
       refine bw (fun hc=> ?_) (fun hc=> ?_)
       · have M:=aQ hc M
         refine eP [(vi 6),(vi 1),(vi 0)] (by simp only [dW,b9,cb,cd,cf,  List.length_cons,List.length_nil,Nat.reduceAdd,Nat.zero_add,decide_true,Bool.and_self]) (by simp only [List.flatMap_cons,List.flatMap_nil,b9,cb,cd,cf,  List.cons_append,List.nil_append,List.append_nil]) ?_
         refine eP [(vi 2),(vi 0)] (by simp only [dW,b9,cb,cd,cf,  List.length_cons,List.length_nil,Nat.reduceAdd,Nat.zero_add,decide_true,Bool.and_self]) (by simp only [List.flatMap_cons,List.flatMap_nil,b9,cb,cd,cf,  List.cons_append,List.nil_append,List.append_nil]) ?_
         refine(ie (l:=[(vi 6),(vi 1),(vi 0),(vi 0),(vi 2),(vi 0),(.bool false)]) (de (m:=[(vi 6),(vi 1),(vi 0)]) (l2:=[(vi 6),(vi 1),(vi 0),(vi 0),(vi 0),(vi 0),(.bool false)]) rfl rfl (Nat.le_of_ble_eq_true rfl) rfl (de (m:=[(vi 2),(vi 0)]) (l2:=[(vi 6),(vi 1),(vi 0),(vi 0),(vi 2),(vi 0),(.bool false)]) rfl rfl (Nat.le_of_ble_eq_true rfl) rfl rfl))).2 ?_
         refine S.dv [(vi 6),(vi 1),(vi 0),(vi 0),(vi 2),(vi 0),(.bool false)] [(vi 6),(vi 1),(vi 0),(vi 0),(vi 2),(vi 0),(.bool false)] rfl rfl (aa rfl (aa rfl (aa rfl (aa rfl (aa rfl (aa rfl (aa rfl rfl))))))) (Nat.le_of_ble_eq_true rfl) rfl (fun h S=> ?_)
         refine S.dc [(vi 6),(vi 1),(vi 0),(vi 0),(vi 2),(vi 0),(.bool false)] 0 rfl rfl rfl (by decide) ?_
         cases M
         exact H _ _  S.bH
       · have M:=aS hc M
         refine cK.2 ?_
         refine bw (fun hc=> ?_) (fun hc=> ?_)
         · have M:=aQ hc M
           refine eP [(vi 7),(vi 2),(vi 8)] (by simp only [dW,b9,cb,cd,cf,  List.length_cons,List.length_nil,Nat.reduceAdd,Nat.zero_add,decide_true,Bool.and_self]) (by simp only [List.flatMap_cons,List.flatMap_nil,b9,cb,cd,cf,  List.cons_append,List.nil_append,List.append_nil]) ?_
           refine eP [(vi 2),(vi 0)] (by simp only [dW,b9,cb,cd,cf,  List.length_cons,List.length_nil,Nat.reduceAdd,Nat.zero_add,decide_true,Bool.and_self]) (by simp only [List.flatMap_cons,List.flatMap_nil,b9,cb,cd,cf,  List.cons_append,List.nil_append,List.append_nil]) ?_
           refine eP [(vi 7),(vi 2),(vi 8),(vi 1),(vi 2),(vi 0),(.bool true)] (by simp only [dW,b9,cb,cd,cf,  List.length_cons,List.length_nil,Nat.reduceAdd,Nat.zero_add,decide_true,Bool.and_self]) (by simp only [List.flatMap_cons,List.flatMap_nil,b9,cb,cd,cf,  List.cons_append,List.nil_append,List.append_nil]) ?_
           refine S.dv [(vi 7),(vi 2),(vi 8),(vi 1),(vi 2),(vi 0),(.bool true)] [(vi 7),(vi 2),(vi 8),(vi 1),(vi 2),(vi 0),(.bool true)] rfl rfl (aa rfl (aa rfl (aa rfl (aa rfl (aa rfl (aa rfl (aa rfl rfl))))))) (Nat.le_of_ble_eq_true rfl) rfl (fun h S=> ?_)
           refine S.dc [(vi 7),(vi 2),(vi 8),(vi 1),(vi 2),(vi 0),(.bool true)] 0 rfl rfl rfl (by decide) ?_
           cases M
           exact H _ _  S.bH
         · have M:=aS hc M
           refine cK.2 ?_
           refine bw (fun hc=> ?_) (fun hc=> ?_)
           · have M:=aQ hc M
             refine eP [(vi 1),(vi 9),(vi 4)] (by simp only [dW,b9,cb,cd,cf,  List.length_cons,List.length_nil,Nat.reduceAdd,Nat.zero_add,decide_true,Bool.and_self]) (by simp only [List.flatMap_cons,List.flatMap_nil,b9,cb,cd,cf,  List.cons_append,List.nil_append,List.append_nil]) ?_
             refine(ie (l:=[(vi 1),(vi 9),(vi 4),(vi 1),(vi 0),(vi 0),(.bool true)]) (de (m:=[(vi 1),(vi 9),(vi 4)]) (l2:=[(vi 1),(vi 9),(vi 4),(vi 0),(vi 0),(vi 0),(.bool false)]) rfl rfl (Nat.le_of_ble_eq_true rfl) rfl (de (m:=[(vi 1)]) (l2:=[(vi 1),(vi 9),(vi 4),(vi 1),(vi 0),(vi 0),(.bool false)]) rfl rfl (Nat.le_of_ble_eq_true rfl) rfl (de (m:=[(.bool true)]) (l2:=[(vi 1),(vi 9),(vi 4),(vi 1),(vi 0),(vi 0),(.bool true)]) rfl rfl (Nat.le_of_ble_eq_true rfl) rfl rfl)))).2 ?_
             refine S.dv [(vi 1),(vi 9),(vi 4),(vi 1),(vi 0),(vi 0),(.bool true)] [(vi 1),(vi 9),(vi 4),(vi 1),(vi 0),(vi 0),(.bool true)] rfl rfl (aa rfl (aa rfl (aa rfl (aa rfl (aa rfl (aa rfl (aa rfl rfl))))))) (Nat.le_of_ble_eq_true rfl) rfl (fun h S=> ?_)
             refine S.dc [(vi 1),(vi 9),(vi 4),(vi 1),(vi 0),(vi 0),(.bool true)] 0 rfl rfl rfl (by decide) ?_
             cases M
             exact H _ _  S.bH
           · have M:=aS hc M
             refine cK.2 ?_
             refine bw (fun hc=> ?_) (fun hc=> ?_)
             · have M:=aQ hc M
               refine eP [(vi 1),(vi 10),(vi 0)] (by simp only [dW,b9,cb,cd,cf,  List.length_cons,List.length_nil,Nat.reduceAdd,Nat.zero_add,decide_true,Bool.and_self]) (by simp only [List.flatMap_cons,List.flatMap_nil,b9,cb,cd,cf,  List.cons_append,List.nil_append,List.append_nil]) ?_
               refine eP [(vi 1),(vi 0)] (by simp only [dW,b9,cb,cd,cf,  List.length_cons,List.length_nil,Nat.reduceAdd,Nat.zero_add,decide_true,Bool.and_self]) (by simp only [List.flatMap_cons,List.flatMap_nil,b9,cb,cd,cf,  List.cons_append,List.nil_append,List.append_nil]) ?_
               refine(ie (l:=[(vi 1),(vi 10),(vi 0),(vi 0),(vi 1),(vi 0),(.bool true)]) (de (m:=[(vi 1),(vi 10),(vi 0)]) (l2:=[(vi 1),(vi 10),(vi 0),(vi 0),(vi 0),(vi 0),(.bool false)]) rfl rfl (Nat.le_of_ble_eq_true rfl) rfl (de (m:=[(vi 1),(vi 0)]) (l2:=[(vi 1),(vi 10),(vi 0),(vi 0),(vi 1),(vi 0),(.bool false)]) rfl rfl (Nat.le_of_ble_eq_true rfl) rfl (de (m:=[(.bool true)]) (l2:=[(vi 1),(vi 10),(vi 0),(vi 0),(vi 1),(vi 0),(.bool true)]) rfl rfl (Nat.le_of_ble_eq_true rfl) rfl rfl)))).2 ?_
               refine S.dv [(vi 1),(vi 10),(vi 0),(vi 0),(vi 1),(vi 0),(.bool true)] [(vi 1),(vi 10),(vi 0),(vi 0),(vi 1),(vi 0),(.bool true)] rfl rfl (aa rfl (aa rfl (aa rfl (aa rfl (aa rfl (aa rfl (aa rfl rfl))))))) (Nat.le_of_ble_eq_true rfl) rfl (fun h S=> ?_)
               refine S.dc [(vi 1),(vi 10),(vi 0),(vi 0),(vi 1),(vi 0),(.bool true)] 0 rfl rfl rfl (by decide) ?_
               cases M
               exact H _ _  S.bH
             · have M:=aS hc M
               refine cK.2 ?_
               refine bw (fun hc=> ?_) (fun hc=> ?_)
               · have M:=aQ hc M
                 refine eP [(vi 2),(vi 0),(vi 0)] (by simp only [dW,b9,cb,cd,cf,  List.length_cons,List.length_nil,Nat.reduceAdd,Nat.zero_add,decide_true,Bool.and_self]) (by simp only [List.flatMap_cons,List.flatMap_nil,b9,cb,cd,cf,  List.cons_append,List.nil_append,List.append_nil]) ?_
                 refine eP [(vi 1),(vi 0)] (by simp only [dW,b9,cb,cd,cf,  List.length_cons,List.length_nil,Nat.reduceAdd,Nat.zero_add,decide_true,Bool.and_self]) (by simp only [List.flatMap_cons,List.flatMap_nil,b9,cb,cd,cf,  List.cons_append,List.nil_append,List.append_nil]) ?_
                 refine(ie (l:=[(vi 2),(vi 0),(vi 0),(vi 0),(vi 1),(vi 0),(.bool true)]) (de (m:=[(vi 2),(vi 0),(vi 0)]) (l2:=[(vi 2),(vi 0),(vi 0),(vi 0),(vi 0),(vi 0),(.bool false)]) rfl rfl (Nat.le_of_ble_eq_true rfl) rfl (de (m:=[(vi 1),(vi 0)]) (l2:=[(vi 2),(vi 0),(vi 0),(vi 0),(vi 1),(vi 0),(.bool false)]) rfl rfl (Nat.le_of_ble_eq_true rfl) rfl (de (m:=[(.bool true)]) (l2:=[(vi 2),(vi 0),(vi 0),(vi 0),(vi 1),(vi 0),(.bool true)]) rfl rfl (Nat.le_of_ble_eq_true rfl) rfl rfl)))).2 ?_
                 refine S.dv [(vi 2),(vi 0),(vi 0),(vi 0),(vi 1),(vi 0),(.bool true)] [(vi 2),(vi 0),(vi 0),(vi 0),(vi 1),(vi 0),(.bool true)] rfl rfl (aa rfl (aa rfl (aa rfl (aa rfl (aa rfl (aa rfl (aa rfl rfl))))))) (Nat.le_of_ble_eq_true rfl) rfl (fun h S=> ?_)
                 refine S.dc [(vi 2),(vi 0),(vi 0),(vi 0),(vi 1),(vi 0),(.bool true)] 0 rfl rfl rfl (by decide) ?_
                 cases M
                 exact H _ _  S.bH
               · have M:=aS hc M
                 refine cK.2 ?_
                 refine bw (fun hc=> ?_) (fun hc=> ?_)
                 · have M:=aQ hc M
                   refine eP [(vi 11),(vi 0),(vi 0)] (by simp only [dW,b9,cb,cd,cf,  List.length_cons,List.length_nil,Nat.reduceAdd,Nat.zero_add,decide_true,Bool.and_self]) (by simp only [List.flatMap_cons,List.flatMap_nil,b9,cb,cd,cf,  List.cons_append,List.nil_append,List.append_nil]) ?_
                   refine(ie (l:=[(vi 11),(vi 0),(vi 0),(vi 0),(vi 0),(vi 0),(.bool false)]) (de (m:=[(vi 11),(vi 0),(vi 0)]) (l2:=[(vi 11),(vi 0),(vi 0),(vi 0),(vi 0),(vi 0),(.bool false)]) rfl rfl (Nat.le_of_ble_eq_true rfl) rfl rfl)).2 ?_
                   refine S.dv [(vi 11),(vi 0),(vi 0),(vi 0),(vi 0),(vi 0),(.bool false)] [(vi 11),(vi 0),(vi 0),(vi 0),(vi 0),(vi 0),(.bool false)] rfl rfl (aa rfl (aa rfl (aa rfl (aa rfl (aa rfl (aa rfl (aa rfl rfl))))))) (Nat.le_of_ble_eq_true rfl) rfl (fun h S=> ?_)
                   refine S.dc [(vi 11),(vi 0),(vi 0),(vi 0),(vi 0),(vi 0),(.bool false)] 0 rfl rfl rfl (by decide) ?_
                   cases M
                   exact H _ _  S.bH
                 · have M:=aS hc M
                   refine cK.2 ?_
                   refine bw (fun hc=> ?_) (fun hc=> ?_)
                   · have M:=aQ hc M
                     refine eP [(vi 1),(vi 11),(vi 0)] (by simp only [dW,b9,cb,cd,cf,  List.length_cons,List.length_nil,Nat.reduceAdd,Nat.zero_add,decide_true,Bool.and_self]) (by simp only [List.flatMap_cons,List.flatMap_nil,b9,cb,cd,cf,  List.cons_append,List.nil_append,List.append_nil]) ?_
                     refine eP [(vi 1),(vi 0)] (by simp only [dW,b9,cb,cd,cf,  List.length_cons,List.length_nil,Nat.reduceAdd,Nat.zero_add,decide_true,Bool.and_self]) (by simp only [List.flatMap_cons,List.flatMap_nil,b9,cb,cd,cf,  List.cons_append,List.nil_append,List.append_nil]) ?_
                     refine(ie (l:=[(vi 1),(vi 11),(vi 0),(vi 0),(vi 1),(vi 0),(.bool false)]) (de (m:=[(vi 1),(vi 11),(vi 0)]) (l2:=[(vi 1),(vi 11),(vi 0),(vi 0),(vi 0),(vi 0),(.bool false)]) rfl rfl (Nat.le_of_ble_eq_true rfl) rfl (de (m:=[(vi 1),(vi 0)]) (l2:=[(vi 1),(vi 11),(vi 0),(vi 0),(vi 1),(vi 0),(.bool false)]) rfl rfl (Nat.le_of_ble_eq_true rfl) rfl rfl))).2 ?_
                     refine S.dv [(vi 1),(vi 11),(vi 0),(vi 0),(vi 1),(vi 0),(.bool false)] [(vi 1),(vi 11),(vi 0),(vi 0),(vi 1),(vi 0),(.bool false)] rfl rfl (aa rfl (aa rfl (aa rfl (aa rfl (aa rfl (aa rfl (aa rfl rfl))))))) (Nat.le_of_ble_eq_true rfl) rfl (fun h S=> ?_)
                     refine S.dc [(vi 1),(vi 11),(vi 0),(vi 0),(vi 1),(vi 0),(.bool false)] 0 rfl rfl rfl (by decide) ?_
                     cases M
                     exact H _ _  S.bH
                   · have M:=aS hc M
                     refine cK.2 ?_
                     refine bw (fun hc=> ?_) (fun hc=> ?_)
                     · have M:=aQ hc M
                       refine eP [(vi 12),(vi 0),(vi 0)] (by simp only [dW,b9,cb,cd,cf,  List.length_cons,List.length_nil,Nat.reduceAdd,Nat.zero_add,decide_true,Bool.and_self]) (by simp only [List.flatMap_cons,List.flatMap_nil,b9,cb,cd,cf,  List.cons_append,List.nil_append,List.append_nil]) ?_
                       refine(ie (l:=[(vi 12),(vi 0),(vi 0),(vi 0),(vi 0),(vi 0),(.bool true)]) (de (m:=[(vi 12),(vi 0),(vi 0)]) (l2:=[(vi 12),(vi 0),(vi 0),(vi 0),(vi 0),(vi 0),(.bool false)]) rfl rfl (Nat.le_of_ble_eq_true rfl) rfl (de (m:=[(.bool true)]) (l2:=[(vi 12),(vi 0),(vi 0),(vi 0),(vi 0),(vi 0),(.bool true)]) rfl rfl (Nat.le_of_ble_eq_true rfl) rfl rfl))).2 ?_
                       refine S.dv [(vi 12),(vi 0),(vi 0),(vi 0),(vi 0),(vi 0),(.bool true)] [(vi 12),(vi 0),(vi 0),(vi 0),(vi 0),(vi 0),(.bool true)] rfl rfl (aa rfl (aa rfl (aa rfl (aa rfl (aa rfl (aa rfl (aa rfl rfl))))))) (Nat.le_of_ble_eq_true rfl) rfl (fun h S=> ?_)
                       refine S.dc [(vi 12),(vi 0),(vi 0),(vi 0),(vi 0),(vi 0),(.bool true)] 0 rfl rfl rfl (by decide) ?_
                       cases M
                       exact H _ _  S.bH
                     · have M:=aS hc M
                       refine cK.2 ?_
                       refine bw (fun hc=> ?_) (fun hc=> ?_)
                       · have M:=aQ hc M
                         refine(ie (l:=[(vi 0),(vi 0),(vi 0),(vi 0),(vi 0),(vi 0),(.bool true)]) (de (m:=[(.bool true)]) (l2:=[(vi 0),(vi 0),(vi 0),(vi 0),(vi 0),(vi 0),(.bool true)]) rfl rfl (Nat.le_of_ble_eq_true rfl) rfl rfl)).2 ?_
                         refine S.dv [(vi 0),(vi 0),(vi 0),(vi 0),(vi 0),(vi 0),(.bool true)] [(vi 0),(vi 0),(vi 0),(vi 0),(vi 0),(vi 0),(.bool true)] rfl rfl (aa rfl (aa rfl (aa rfl (aa rfl (aa rfl (aa rfl (aa rfl rfl))))))) (Nat.le_of_ble_eq_true rfl) rfl (fun h S=> ?_)
                         refine S.dc [(vi 0),(vi 0),(vi 0),(vi 0),(vi 0),(vi 0),(.bool true)] 0 rfl rfl rfl (by decide) ?_
                         cases M
                         exact H _ _  S.bH
                       · have M:=aS hc M
                         refine cK.2 ?_
                         refine bw (fun hc=> ?_) (fun hc=> ?_)
                         · have M:=aQ hc M
                           refine eP [(vi 2),(vi 0),(vi 0)] (by simp only [dW,b9,cb,cd,cf,  List.length_cons,List.length_nil,Nat.reduceAdd,Nat.zero_add,decide_true,Bool.and_self]) (by simp only [List.flatMap_cons,List.flatMap_nil,b9,cb,cd,cf,  List.cons_append,List.nil_append,List.append_nil]) ?_
                           refine eP [(vi 1),(vi 0)] (by simp only [dW,b9,cb,cd,cf,  List.length_cons,List.length_nil,Nat.reduceAdd,Nat.zero_add,decide_true,Bool.and_self]) (by simp only [List.flatMap_cons,List.flatMap_nil,b9,cb,cd,cf,  List.cons_append,List.nil_append,List.append_nil]) ?_
                           refine(ie (l:=[(vi 2),(vi 0),(vi 0),(vi 0),(vi 1),(vi 0),(.bool false)]) (de (m:=[(vi 2),(vi 0),(vi 0)]) (l2:=[(vi 2),(vi 0),(vi 0),(vi 0),(vi 0),(vi 0),(.bool false)]) rfl rfl (Nat.le_of_ble_eq_true rfl) rfl (de (m:=[(vi 1),(vi 0)]) (l2:=[(vi 2),(vi 0),(vi 0),(vi 0),(vi 1),(vi 0),(.bool false)]) rfl rfl (Nat.le_of_ble_eq_true rfl) rfl rfl))).2 ?_
                           refine S.dv [(vi 2),(vi 0),(vi 0),(vi 0),(vi 1),(vi 0),(.bool false)] [(vi 2),(vi 0),(vi 0),(vi 0),(vi 1),(vi 0),(.bool false)] rfl rfl (aa rfl (aa rfl (aa rfl (aa rfl (aa rfl (aa rfl (aa rfl rfl))))))) (Nat.le_of_ble_eq_true rfl) rfl (fun h S=> ?_)
                           refine S.dc [(vi 2),(vi 0),(vi 0),(vi 0),(vi 1),(vi 0),(.bool false)] 0 rfl rfl rfl (by decide) ?_
                           cases M
                           exact H _ _  S.bH
                         · have M:=aS hc M
                           refine cK.2 ?_
                           refine bw (fun hc=> ?_) (fun hc=> ?_)
                           · have M:=aQ hc M
                             refine eP [(vi 1),(vi 0),(vi 0)] (by simp only [dW,b9,cb,cd,cf,  List.length_cons,List.length_nil,Nat.reduceAdd,Nat.zero_add,decide_true,Bool.and_self]) (by simp only [List.flatMap_cons,List.flatMap_nil,b9,cb,cd,cf,  List.cons_append,List.nil_append,List.append_nil]) ?_
                             refine eP [(vi 1),(vi 0)] (by simp only [dW,b9,cb,cd,cf,  List.length_cons,List.length_nil,Nat.reduceAdd,Nat.zero_add,decide_true,Bool.and_self]) (by simp only [List.flatMap_cons,List.flatMap_nil,b9,cb,cd,cf,  List.cons_append,List.nil_append,List.append_nil]) ?_
                             refine(ie (l:=[(vi 1),(vi 0),(vi 0),(vi 0),(vi 1),(vi 0),(.bool false)]) (de (m:=[(vi 1),(vi 0),(vi 0)]) (l2:=[(vi 1),(vi 0),(vi 0),(vi 0),(vi 0),(vi 0),(.bool false)]) rfl rfl (Nat.le_of_ble_eq_true rfl) rfl (de (m:=[(vi 1),(vi 0)]) (l2:=[(vi 1),(vi 0),(vi 0),(vi 0),(vi 1),(vi 0),(.bool false)]) rfl rfl (Nat.le_of_ble_eq_true rfl) rfl rfl))).2 ?_
                             refine S.dv [(vi 1),(vi 0),(vi 0),(vi 0),(vi 1),(vi 0),(.bool false)] [(vi 1),(vi 0),(vi 0),(vi 0),(vi 1),(vi 0),(.bool false)] rfl rfl (aa rfl (aa rfl (aa rfl (aa rfl (aa rfl (aa rfl (aa rfl rfl))))))) (Nat.le_of_ble_eq_true rfl) rfl (fun h S=> ?_)
                             refine S.dc [(vi 1),(vi 0),(vi 0),(vi 0),(vi 1),(vi 0),(.bool false)] 0 rfl rfl rfl (by decide) ?_
                             cases M
                             exact H _ _  S.bH
                           · have M:=aS hc M
                             refine cK.2 ?_
                             refine bw (fun hc=> ?_) (fun hc=> ?_)
                             · have M:=aQ hc M
                               refine eP [(vi 1),(vi 0),(vi 0)] (by simp only [dW,b9,cb,cd,cf,  List.length_cons,List.length_nil,Nat.reduceAdd,Nat.zero_add,decide_true,Bool.and_self]) (by simp only [List.flatMap_cons,List.flatMap_nil,b9,cb,cd,cf,  List.cons_append,List.nil_append,List.append_nil]) ?_
                               refine eP [(vi 1),(vi 0)] (by simp only [dW,b9,cb,cd,cf,  List.length_cons,List.length_nil,Nat.reduceAdd,Nat.zero_add,decide_true,Bool.and_self]) (by simp only [List.flatMap_cons,List.flatMap_nil,b9,cb,cd,cf,  List.cons_append,List.nil_append,List.append_nil]) ?_
                               refine(ie (l:=[(vi 1),(vi 0),(vi 0),(vi 0),(vi 1),(vi 0),(.bool true)]) (de (m:=[(vi 1),(vi 0),(vi 0)]) (l2:=[(vi 1),(vi 0),(vi 0),(vi 0),(vi 0),(vi 0),(.bool false)]) rfl rfl (Nat.le_of_ble_eq_true rfl) rfl (de (m:=[(vi 1),(vi 0)]) (l2:=[(vi 1),(vi 0),(vi 0),(vi 0),(vi 1),(vi 0),(.bool false)]) rfl rfl (Nat.le_of_ble_eq_true rfl) rfl (de (m:=[(.bool true)]) (l2:=[(vi 1),(vi 0),(vi 0),(vi 0),(vi 1),(vi 0),(.bool true)]) rfl rfl (Nat.le_of_ble_eq_true rfl) rfl rfl)))).2 ?_
                               refine S.dv [(vi 1),(vi 0),(vi 0),(vi 0),(vi 1),(vi 0),(.bool true)] [(vi 1),(vi 0),(vi 0),(vi 0),(vi 1),(vi 0),(.bool true)] rfl rfl (aa rfl (aa rfl (aa rfl (aa rfl (aa rfl (aa rfl (aa rfl rfl))))))) (Nat.le_of_ble_eq_true rfl) rfl (fun h S=> ?_)
                               refine S.dc [(vi 1),(vi 0),(vi 0),(vi 0),(vi 1),(vi 0),(.bool true)] 0 rfl rfl rfl (by decide) ?_
                               cases M
                               exact H _ _  S.bH
                             · have M:=aS hc M
                               refine cK.2 ?_
                               refine bw (fun hc=> ?_) (fun hc=> ?_)
                               · have M:=aQ hc M
                                 refine(ie (l:=[(vi 0),(vi 0),(vi 0),(vi 0),(vi 0),(vi 0),(.bool false)]) rfl).2 ?_
                                 refine S.dv [(vi 0),(vi 0),(vi 0),(vi 0),(vi 0),(vi 0),(.bool false)] [(vi 0),(vi 0),(vi 0),(vi 0),(vi 0),(vi 0),(.bool false)] rfl rfl (aa rfl (aa rfl (aa rfl (aa rfl (aa rfl (aa rfl (aa rfl rfl))))))) (Nat.le_of_ble_eq_true rfl) rfl (fun h S=> ?_)
                                 refine S.dc [(vi 0),(vi 0),(vi 0),(vi 0),(vi 0),(vi 0),(.bool false)] 0 rfl rfl rfl (by decide) ?_
                                 cases M
                                 exact H _ _  S.bH
                               · have M:=aS hc M
                                 refine cK.2 ?_
                                 refine bw (fun hc=> ?_) (fun hc=> ?_)
                                 · have M:=aQ hc M
                                   refine eP [(vi 1),(vi 11),(vi 0)] (by simp only [dW,b9,cb,cd,cf,  List.length_cons,List.length_nil,Nat.reduceAdd,Nat.zero_add,decide_true,Bool.and_self]) (by simp only [List.flatMap_cons,List.flatMap_nil,b9,cb,cd,cf,  List.cons_append,List.nil_append,List.append_nil]) ?_
                                   refine eP [(vi 1),(vi 0)] (by simp only [dW,b9,cb,cd,cf,  List.length_cons,List.length_nil,Nat.reduceAdd,Nat.zero_add,decide_true,Bool.and_self]) (by simp only [List.flatMap_cons,List.flatMap_nil,b9,cb,cd,cf,  List.cons_append,List.nil_append,List.append_nil]) ?_
                                   refine(ie (l:=[(vi 1),(vi 11),(vi 0),(vi 0),(vi 1),(vi 0),(.bool true)]) (de (m:=[(vi 1),(vi 11),(vi 0)]) (l2:=[(vi 1),(vi 11),(vi 0),(vi 0),(vi 0),(vi 0),(.bool false)]) rfl rfl (Nat.le_of_ble_eq_true rfl) rfl (de (m:=[(vi 1),(vi 0)]) (l2:=[(vi 1),(vi 11),(vi 0),(vi 0),(vi 1),(vi 0),(.bool false)]) rfl rfl (Nat.le_of_ble_eq_true rfl) rfl (de (m:=[(.bool true)]) (l2:=[(vi 1),(vi 11),(vi 0),(vi 0),(vi 1),(vi 0),(.bool true)]) rfl rfl (Nat.le_of_ble_eq_true rfl) rfl rfl)))).2 ?_
                                   refine S.dv [(vi 1),(vi 11),(vi 0),(vi 0),(vi 1),(vi 0),(.bool true)] [(vi 1),(vi 11),(vi 0),(vi 0),(vi 1),(vi 0),(.bool true)] rfl rfl (aa rfl (aa rfl (aa rfl (aa rfl (aa rfl (aa rfl (aa rfl rfl))))))) (Nat.le_of_ble_eq_true rfl) rfl (fun h S=> ?_)
                                   refine S.dc [(vi 1),(vi 11),(vi 0),(vi 0),(vi 1),(vi 0),(.bool true)] 0 rfl rfl rfl (by decide) ?_
                                   cases M
                                   exact H _ _  S.bH
                                 · have M:=aS hc M
                                   refine cK.2 ?_
                                   refine bw (fun hc=> ?_) (fun hc=> ?_)
                                   · have M:=aQ hc M
                                     refine eP [(vi 1),(vi 13),(vi 0)] (by simp only [dW,b9,cb,cd,cf,  List.length_cons,List.length_nil,Nat.reduceAdd,Nat.zero_add,decide_true,Bool.and_self]) (by simp only [List.flatMap_cons,List.flatMap_nil,b9,cb,cd,cf,  List.cons_append,List.nil_append,List.append_nil]) ?_
                                     refine(ie (l:=[(vi 1),(vi 13),(vi 0),(vi 1),(vi 0),(vi 0),(.bool false)]) (de (m:=[(vi 1),(vi 13),(vi 0)]) (l2:=[(vi 1),(vi 13),(vi 0),(vi 0),(vi 0),(vi 0),(.bool false)]) rfl rfl (Nat.le_of_ble_eq_true rfl) rfl (de (m:=[(vi 1)]) (l2:=[(vi 1),(vi 13),(vi 0),(vi 1),(vi 0),(vi 0),(.bool false)]) rfl rfl (Nat.le_of_ble_eq_true rfl) rfl rfl))).2 ?_
                                     refine S.dv [(vi 1),(vi 13),(vi 0),(vi 1),(vi 0),(vi 0),(.bool false)] [(vi 1),(vi 13),(vi 0),(vi 1),(vi 0),(vi 0),(.bool false)] rfl rfl (aa rfl (aa rfl (aa rfl (aa rfl (aa rfl (aa rfl (aa rfl rfl))))))) (Nat.le_of_ble_eq_true rfl) rfl (fun h S=> ?_)
                                     refine S.dc [(vi 1),(vi 13),(vi 0),(vi 1),(vi 0),(vi 0),(.bool false)] 0 rfl rfl rfl (by decide) ?_
                                     cases M
                                     exact H _ _  S.bH
                                   · have M:=aS hc M
                                     refine cK.2 ?_
                                     refine bw (fun hc=> ?_) (fun hc=> ?_)
                                     · have M:=aQ hc M
                                       refine eP [(vi 13),(vi 1),(vi 0)] (by simp only [dW,b9,cb,cd,cf,  List.length_cons,List.length_nil,Nat.reduceAdd,Nat.zero_add,decide_true,Bool.and_self]) (by simp only [List.flatMap_cons,List.flatMap_nil,b9,cb,cd,cf,  List.cons_append,List.nil_append,List.append_nil]) ?_
                                       refine eP [(vi 2),(vi 0)] (by simp only [dW,b9,cb,cd,cf,  List.length_cons,List.length_nil,Nat.reduceAdd,Nat.zero_add,decide_true,Bool.and_self]) (by simp only [List.flatMap_cons,List.flatMap_nil,b9,cb,cd,cf,  List.cons_append,List.nil_append,List.append_nil]) ?_
                                       refine(ie (l:=[(vi 13),(vi 1),(vi 0),(vi 0),(vi 2),(vi 0),(.bool false)]) (de (m:=[(vi 13),(vi 1),(vi 0)]) (l2:=[(vi 13),(vi 1),(vi 0),(vi 0),(vi 0),(vi 0),(.bool false)]) rfl rfl (Nat.le_of_ble_eq_true rfl) rfl (de (m:=[(vi 2),(vi 0)]) (l2:=[(vi 13),(vi 1),(vi 0),(vi 0),(vi 2),(vi 0),(.bool false)]) rfl rfl (Nat.le_of_ble_eq_true rfl) rfl rfl))).2 ?_
                                       refine S.dv [(vi 13),(vi 1),(vi 0),(vi 0),(vi 2),(vi 0),(.bool false)] [(vi 13),(vi 1),(vi 0),(vi 0),(vi 2),(vi 0),(.bool false)] rfl rfl (aa rfl (aa rfl (aa rfl (aa rfl (aa rfl (aa rfl (aa rfl rfl))))))) (Nat.le_of_ble_eq_true rfl) rfl (fun h S=> ?_)
                                       refine S.dc [(vi 13),(vi 1),(vi 0),(vi 0),(vi 2),(vi 0),(.bool false)] 0 rfl rfl rfl (by decide) ?_
                                       cases M
                                       exact H _ _  S.bH
                                     · have M:=aS hc M
                                       exact api M S  H
theorem GW {w0:World}{c:Cx}{g h:AH}{E R:Value→W}{r:cP×Bool}{v1:cP}{x0:Int}{Bs:Bool}{al:Nat}  (M:xk v1 x0 Bs=some r) (S:Sep c g h [.bx al [(vi v1.cq.e0),(vi v1.cq.e1),(vi v1.cq.e2),(vi v1.ig),(vi v1.cW.e0),(vi v1.cW.e1),(.bool v1.iE)]])   (H:Db c R r):yO w0 E R (au al 0) (vi x0) (.bool Bs) h:=by
 unfold yO
 unfold xk at M
 refine bw (fun hc=> ?_) (fun hc=> ?_)
 · have M:=aQ hc M
   refine eP [(vi 1),(vi 1),(vi 1)] (by simp only [dW,b9,cb,cd,cf,  List.length_cons,List.length_nil,Nat.reduceAdd,Nat.zero_add,decide_true,Bool.and_self]) (by simp only [List.flatMap_cons,List.flatMap_nil,b9,cb,cd,cf,  List.cons_append,List.nil_append,List.append_nil]) ?_
   refine eP [(vi 2),(vi 3)] (by simp only [dW,b9,cb,cd,cf,  List.length_cons,List.length_nil,Nat.reduceAdd,Nat.zero_add,decide_true,Bool.and_self]) (by simp only [List.flatMap_cons,List.flatMap_nil,b9,cb,cd,cf,  List.cons_append,List.nil_append,List.append_nil]) ?_
   refine eP [(vi 1),(vi 1),(vi 1),(vi 1),(vi 2),(vi 3),(.bool true)] (by simp only [dW,b9,cb,cd,cf,  List.length_cons,List.length_nil,Nat.reduceAdd,Nat.zero_add,decide_true,Bool.and_self]) (by simp only [List.flatMap_cons,List.flatMap_nil,b9,cb,cd,cf,  List.cons_append,List.nil_append,List.append_nil]) ?_
   refine S.dv [(vi 1),(vi 1),(vi 1),(vi 1),(vi 2),(vi 3),(.bool true)] [(vi 1),(vi 1),(vi 1),(vi 1),(vi 2),(vi 3),(.bool true)] rfl rfl (aa rfl (aa rfl (aa rfl (aa rfl (aa rfl (aa rfl (aa rfl rfl))))))) (Nat.le_of_ble_eq_true rfl) rfl (fun h S=> ?_)
   refine S.dc [(vi 1),(vi 1),(vi 1),(vi 1),(vi 2),(vi 3),(.bool true)] 0 rfl rfl rfl (by decide) ?_
   cases M
   exact H _ _  S.bH
 · have M:=aS hc M
   refine cK.2 ?_
   refine bw (fun hc=> ?_) (fun hc=> ?_)
   · have M:=aQ hc M
     exact Wd M S  H
   · have M:=aS hc M
     refine cK.2 ?_
     refine bw (fun hc=> ?_) (fun hc=> ?_)
     · have M:=aQ hc M
       exact Wd M S  H
     · have M:=aS hc M
       refine cK.2 ?_
       exact Wd M S  H
theorem Na {w0:World}{c:Cx}{g h:AH}{E R:Value→W}{r:cP×Bool}{v1:cP}{x0:Int}{aZ:Bool}{al:Nat}  (M:Ag v1 x0 aZ=some r) (S:Sep c g h [.bx al [(vi v1.cq.e0),(vi v1.cq.e1),(vi v1.cq.e2),(vi v1.ig),(vi v1.cW.e0),(vi v1.cW.e1),(.bool v1.iE)]])   (H:Db c R r):Bt w0 E R (au al 0) (vi x0) (.bool aZ) h:=by
 unfold Bt
 unfold Ag at M
 refine bw (fun hc=> ?_) (fun hc=> ?_)
 · have M:=aQ hc M
   refine eP [(vi 1),(vi 1),(vi 0)] (by simp only [dW,b9,cb,cd,cf,  List.length_cons,List.length_nil,Nat.reduceAdd,Nat.zero_add,decide_true,Bool.and_self]) (by simp only [List.flatMap_cons,List.flatMap_nil,b9,cb,cd,cf,  List.cons_append,List.nil_append,List.append_nil]) ?_
   refine eP [(vi 2),(vi 0)] (by simp only [dW,b9,cb,cd,cf,  List.length_cons,List.length_nil,Nat.reduceAdd,Nat.zero_add,decide_true,Bool.and_self]) (by simp only [List.flatMap_cons,List.flatMap_nil,b9,cb,cd,cf,  List.cons_append,List.nil_append,List.append_nil]) ?_
   refine(ie (l:=[(vi 1),(vi 1),(vi 0),(vi 1),(vi 2),(vi 0),(.bool false)]) (de (m:=[(vi 1),(vi 1),(vi 0)]) (l2:=[(vi 1),(vi 1),(vi 0),(vi 0),(vi 0),(vi 0),(.bool false)]) rfl rfl (Nat.le_of_ble_eq_true rfl) rfl (de (m:=[(vi 1)]) (l2:=[(vi 1),(vi 1),(vi 0),(vi 1),(vi 0),(vi 0),(.bool false)]) rfl rfl (Nat.le_of_ble_eq_true rfl) rfl (de (m:=[(vi 2),(vi 0)]) (l2:=[(vi 1),(vi 1),(vi 0),(vi 1),(vi 2),(vi 0),(.bool false)]) rfl rfl (Nat.le_of_ble_eq_true rfl) rfl rfl)))).2 ?_
   refine S.dv [(vi 1),(vi 1),(vi 0),(vi 1),(vi 2),(vi 0),(.bool false)] [(vi 1),(vi 1),(vi 0),(vi 1),(vi 2),(vi 0),(.bool false)] rfl rfl (aa rfl (aa rfl (aa rfl (aa rfl (aa rfl (aa rfl (aa rfl rfl))))))) (Nat.le_of_ble_eq_true rfl) rfl (fun h S=> ?_)
   refine S.dc [(vi 1),(vi 1),(vi 0),(vi 1),(vi 2),(vi 0),(.bool false)] 0 rfl rfl rfl (by decide) ?_
   cases M
   exact H _ _  S.bH
 · have M:=aS hc M
   refine cK.2 ?_
   refine bw (fun hc=> ?_) (fun hc=> ?_)
   · have M:=aQ hc M
     exact GW M S  H
   · have M:=aS hc M
     refine cK.2 ?_
     refine bw (fun hc=> ?_) (fun hc=> ?_)
     · have M:=aQ hc M
       exact GW M S  H
     · have M:=aS hc M
       refine cK.2 ?_
       refine bw (fun hc=> ?_) (fun hc=> ?_)
       · have M:=aQ hc M
         exact GW M S  H
       · have M:=aS hc M
         refine cK.2 ?_
         refine bw (fun hc=> ?_) (fun hc=> ?_)
         · have M:=aQ hc M
           exact GW M S  H
         · have M:=aS hc M
           refine cK.2 ?_
           exact GW M S  H
theorem aeQ {w0:World}{c:Cx}{g h:AH}{E R:Value→W}{r:cP×Bool}{v1:cP}{x0:Int}{cn:Bool}{al:Nat}  (M:GV v1 x0 cn=some r) (S:Sep c g h [.bx al [(vi v1.cq.e0),(vi v1.cq.e1),(vi v1.cq.e2),(vi v1.ig),(vi v1.cW.e0),(vi v1.cW.e1),(.bool v1.iE)]])   (H:Db c R r):JL w0 E R (au al 0) (vi x0) (.bool cn) h:=by
 unfold JL
 unfold GV at M
 refine bw (fun hc=> ?_) (fun hc=> ?_)
 · have M:=aQ hc M
   refine eP [(vi 1),(vi 0),(vi 0)] (by simp only [dW,b9,cb,cd,cf,  List.length_cons,List.length_nil,Nat.reduceAdd,Nat.zero_add,decide_true,Bool.and_self]) (by simp only [List.flatMap_cons,List.flatMap_nil,b9,cb,cd,cf,  List.cons_append,List.nil_append,List.append_nil]) ?_
   refine(ie (l:=[(vi 1),(vi 0),(vi 0),(vi 1),(vi 0),(vi 0),(.bool false)]) (de (m:=[(vi 1),(vi 0),(vi 0)]) (l2:=[(vi 1),(vi 0),(vi 0),(vi 0),(vi 0),(vi 0),(.bool false)]) rfl rfl (Nat.le_of_ble_eq_true rfl) rfl (de (m:=[(vi 1)]) (l2:=[(vi 1),(vi 0),(vi 0),(vi 1),(vi 0),(vi 0),(.bool false)]) rfl rfl (Nat.le_of_ble_eq_true rfl) rfl rfl))).2 ?_
   refine S.dv [(vi 1),(vi 0),(vi 0),(vi 1),(vi 0),(vi 0),(.bool false)] [(vi 1),(vi 0),(vi 0),(vi 1),(vi 0),(vi 0),(.bool false)] rfl rfl (aa rfl (aa rfl (aa rfl (aa rfl (aa rfl (aa rfl (aa rfl rfl))))))) (Nat.le_of_ble_eq_true rfl) rfl (fun h S=> ?_)
   refine S.dc [(vi 1),(vi 0),(vi 0),(vi 1),(vi 0),(vi 0),(.bool false)] 0 rfl rfl rfl (by decide) ?_
   cases M
   exact H _ _  S.bH
 · have M:=aS hc M
   refine cK.2 ?_
   refine bw (fun hc=> ?_) (fun hc=> ?_)
   · have M:=aQ hc M
     exact Na M S  H
   · have M:=aS hc M
     refine cK.2 ?_
     refine bw (fun hc=> ?_) (fun hc=> ?_)
     · have M:=aQ hc M
       exact Na M S  H
     · have M:=aS hc M
       refine cK.2 ?_
       refine bw (fun hc=> ?_) (fun hc=> ?_)
       · have M:=aQ hc M
         exact Na M S  H
       · have M:=aS hc M
         refine cK.2 ?_
         exact Na M S  H
theorem Nb {w0:World}{g h:AH}{Q:CR→AH→Prop}{r:cP×Bool}{x0:Int}(M:xm x0=some r) (sg:Sub g h) (ok:h.Ok)  (H:Db ⟨g,h,[]⟩ (fun v=>Q (.ret v)) r):WF PP w0 Bu [(vi x0)] h Q:=by
 refine aiL _ ?_
 have S:=Sep.start sg ok
 unfold ZG
 unfold xm at M
 refine S.alloc (l:=[(vi 0),(vi 0),(vi 0),(vi 0),(vi 0),(vi 0),(.bool false)]) (aa rfl (aa rfl (aa rfl (aa rfl (aa rfl (aa rfl (aa rfl rfl))))))) (fun jl h S=> ?_)
 refine cK.2 ?_
 refine bw (fun hc=> ?_) (fun hc=> ?_)
 · have M:=aQ hc M
   refine eP [(vi 1),(vi 3),(vi 0)] (by simp only [dW,b9,cb,cd,cf,  List.length_cons,List.length_nil,Nat.reduceAdd,Nat.zero_add,decide_true,Bool.and_self]) (by simp only [List.flatMap_cons,List.flatMap_nil,b9,cb,cd,cf,  List.cons_append,List.nil_append,List.append_nil]) ?_
   refine(ie (l:=[(vi 1),(vi 3),(vi 0),(vi 1),(vi 0),(vi 0),(.bool false)]) (de (m:=[(vi 1),(vi 3),(vi 0)]) (l2:=[(vi 1),(vi 3),(vi 0),(vi 0),(vi 0),(vi 0),(.bool false)]) rfl rfl (Nat.le_of_ble_eq_true rfl) rfl (de (m:=[(vi 1)]) (l2:=[(vi 1),(vi 3),(vi 0),(vi 1),(vi 0),(vi 0),(.bool false)]) rfl rfl (Nat.le_of_ble_eq_true rfl) rfl rfl))).2 ?_
   refine S.dv [(vi 1),(vi 3),(vi 0),(vi 1),(vi 0),(vi 0),(.bool false)] [(vi 1),(vi 3),(vi 0),(vi 1),(vi 0),(vi 0),(.bool false)] rfl rfl (aa rfl (aa rfl (aa rfl (aa rfl (aa rfl (aa rfl (aa rfl rfl))))))) (Nat.le_of_ble_eq_true rfl) rfl (fun h S=> ?_)
   refine S.dc [(vi 1),(vi 3),(vi 0),(vi 1),(vi 0),(vi 0),(.bool false)] 0 rfl rfl rfl (by decide) ?_
   cases M
   exact H _ _  S.bH
 · have M:=aS hc M
   refine cK.2 ?_
   refine bw (fun hc=> ?_) (fun hc=> ?_)
   · have M:=aQ hc M
     refine eP [(vi 1),(vi 4),(vi 0)] (by simp only [dW,b9,cb,cd,cf,  List.length_cons,List.length_nil,Nat.reduceAdd,Nat.zero_add,decide_true,Bool.and_self]) (by simp only [List.flatMap_cons,List.flatMap_nil,b9,cb,cd,cf,  List.cons_append,List.nil_append,List.append_nil]) ?_
     refine(ie (l:=[(vi 1),(vi 4),(vi 0),(vi 1),(vi 0),(vi 0),(.bool false)]) (de (m:=[(vi 1),(vi 4),(vi 0)]) (l2:=[(vi 1),(vi 4),(vi 0),(vi 0),(vi 0),(vi 0),(.bool false)]) rfl rfl (Nat.le_of_ble_eq_true rfl) rfl (de (m:=[(vi 1)]) (l2:=[(vi 1),(vi 4),(vi 0),(vi 1),(vi 0),(vi 0),(.bool false)]) rfl rfl (Nat.le_of_ble_eq_true rfl) rfl rfl))).2 ?_
     refine S.dv [(vi 1),(vi 4),(vi 0),(vi 1),(vi 0),(vi 0),(.bool false)] [(vi 1),(vi 4),(vi 0),(vi 1),(vi 0),(vi 0),(.bool false)] rfl rfl (aa rfl (aa rfl (aa rfl (aa rfl (aa rfl (aa rfl (aa rfl rfl))))))) (Nat.le_of_ble_eq_true rfl) rfl (fun h S=> ?_)
     refine S.dc [(vi 1),(vi 4),(vi 0),(vi 1),(vi 0),(vi 0),(.bool false)] 0 rfl rfl rfl (by decide) ?_
     cases M
     exact H _ _  S.bH
   · have M:=aS hc M
     refine cK.2 ?_
     refine bw (fun hc=> ?_) (fun hc=> ?_)
     · have M:=aQ hc M
       exact aeQ M S  H
     · have M:=aS hc M
       refine cK.2 ?_
       exact aeQ M S  H
def Nc   :Option (Int×Bool) :=
 some (0,false)
def GX (v1:aq) (v8:Bool)  :Option (Int×Bool) :=
 bif v8 then(
 some (v1.fB,true))else(
 Nc)
def Nd (v1:aq)  :Option (Int×Bool) :=
 bif (decide (v1.aI=25))then(
 GX v1 true)else(
 GX v1 (decide (v1.aI=32)))
def Ah (x0:aq):Option (Int×Bool) :=
 bif (decide (x0.aI=24))then(
 some (x0.fA,true))else(
 Nd x0)
abbrev Nf (c:Cx) (R:Value→W) (r:Int×Bool):Prop:=∀(g' h':AH),Sep c g' h' []→R (.tuple ⟨[(vi r.1),(.bool r.2)]⟩) h'
theorem apj {w0:World}{c:Cx}{g h:AH}{E R:Value→W}{r:Int×Bool}   (M:Nc  =some r) (S:Sep c g h [])   (H:Nf c R r):Qe w0 E R  h:=by
 unfold Qe
 unfold Nc at M
 cases M
 exact H _ _  S.bH
theorem aeR {w0:World}{c:Cx}{g h:AH}{E R:Value→W}{r:Int×Bool}{v1:aq}{v8:Bool}{al:Nat}  (M:GX v1 v8=some r) (S:Sep c g h [.bx al [(vi v1.aI),(vi v1.fA),(vi v1.fB),(vi v1.fC)]])   (H:Nf c R r):Qf w0 E R (au al 0) (.bool v8) h:=by
 unfold Qf
 unfold GX at M
 refine bw (fun hc=> ?_) (fun hc=> ?_)
 · have M:=aQ hc M
   refine bC.2 ?_
   refine S.bz 0 rfl rfl ?_
   cases M
   exact H _ _  S.bH
 · have M:=aS hc M
   have S:=S.t0
   exact apj M S  H
theorem apk {w0:World}{c:Cx}{g h:AH}{E R:Value→W}{r:Int×Bool}{v1:aq}{al:Nat}  (M:Nd v1=some r) (S:Sep c g h [.bx al [(vi v1.aI),(vi v1.fA),(vi v1.fB),(vi v1.fC)]])   (H:Nf c R r):Qg w0 E R (au al 0) h:=by
 unfold Qg
 unfold Nd at M
 refine bC.2 ?_
 refine S.bz 0 rfl rfl ?_
 refine cK.2 ?_
 cases hc:(decide (v1.aI=25))
 · have M:=aS hc M
   refine ax rfl ?_
   refine bC.2 ?_
   refine ax rfl ?_
   refine S.bz 0 rfl rfl ?_
   refine ax rfl ?_
   refine cK.2 ?_
   refine bf.2 ?_
   exact aeR M S  H
 · have M:=aQ hc M
   refine aA (by decide) ?_
   refine aA (by decide) ?_
   refine aA (by decide) ?_
   refine bf.2 ?_
   exact aeR M S  H
theorem We {w0:World}{g h:AH}{Q:CR→AH→Prop}{r:Int×Bool}{x0:aq}(M:Ah x0=some r) (sg:Sub g h) (ok:h.Ok)  (H:Nf ⟨g,h,[]⟩ (fun v=>Q (.ret v)) r):WF PP w0 Eo [(.agg ⟨[(vi x0.aI),(vi x0.fA),(vi x0.fB),(vi x0.fC)]⟩)] h Q:=by
 refine aiM _ ?_
 have S:=Sep.start sg ok
 unfold ZH
 unfold Ah at M
 refine S.box [(vi x0.aI),(vi x0.fA),(vi x0.fB),(vi x0.fC)] rfl (aa rfl (aa rfl (aa rfl (aa rfl rfl)))) (fun jl h S=> ?_)
 refine bC.2 ?_
 refine S.bz 0 rfl rfl ?_
 refine cK.2 ?_
 refine bw (fun hc=> ?_) (fun hc=> ?_)
 · have M:=aQ hc M
   refine bC.2 ?_
   refine S.bz 0 rfl rfl ?_
   cases M
   exact H _ _  S.bH
 · have M:=aS hc M
   exact apk M S  H
def Wf (N:Nat) (dk:Int) (ij:ak) (kN:Int→Option Bool):Option Bool :=
 kN (bD .i64 (dk+1))
def Dc (N:Nat) (dk:Int) (lO:Bool) (ij:ak) (kN:Int→Option Bool):Option Bool :=
 bif lO then(
 some false)else(
 Wf N dk ij kN)
def GY (N:Nat) (v1:ak) (dk:Int) (v4:Int) (kN:Int→Option Bool):Option Bool :=
(ix v1.ae dk).bind fun vr =>
(xm vr.aI).bind fun mw =>
(ix v1.ae dk).bind fun gO =>
(Ah gO).bind fun nn =>
 bif (!mw.2)then(
 Dc N dk true v1 kN)else(
 bif nn.2 then(
(tn nn.1 0 (bD .i64 (v4-1))).bind fun tg =>
 Dc N dk (!tg) v1 kN)else(
 Dc N dk false v1 kN))
def Wg (N:Nat) (y6:Int) (cQ:ak) (gP:Int→Option Bool):Option Bool :=
 gP (bD .i64 (y6+1))
def GZ (N:Nat) (y6:Int) (jh:Bool) (cQ:ak) (gP:Int→Option Bool):Option Bool :=
 bif jh then(
 some false)else(
 Wg N y6 cQ gP)
def G0 (N:Nat) (v12:aK) (v4:Int) (y6:Int) (eN:Bool) (cQ:ak) (gP:Int→Option Bool):Option Bool :=
 bif eN then(
 GZ N y6 true cQ gP)else(
(tn v12.eg 0 (bD .i64 (v4-1))).bind fun G1 =>
 GZ N y6 (!G1) cQ gP)
def Ai (N:Nat) (v12:aK) (v4:Int) (y6:Int) (dX:Bool) (cQ:ak) (gP:Int→Option Bool):Option Bool :=
 bif dX then(
 G0 N v12 v4 y6 true cQ gP)else(
 G0 N v12 v4 y6 (decide (v4<v12.fg)) cQ gP)
def Wh (N:Nat) (v1:ak) (y6:Int) (v4:Int) (gP:Int→Option Bool):Option Bool :=
(ix v1.aM y6).bind fun iQ =>
 bif (decide (iQ.eD<0))then(
 Ai N iQ v4 y6 true v1 gP)else(
 Ai N iQ v4 y6 (decide (iQ.fg≤iQ.eD)) v1 gP)
def Wi (N:Nat)   :Option Bool :=
 some true
def Wj (N:Nat) (v1:ak) (v4:Int) (y6:Int) (gP:Int→Option Bool):Option Bool :=
 bif (decide (y6<(v1.aM.length:Int)))then(
 Wh N v1 y6 v4 gP)else(
 Wi N)
def G2 (N:Nat) (v1:ak) (v4:Int)  :Nat→Int→Option Bool
 | 0,_=>none
 | n+1,y6=>Wj N v1 v4 y6  (fun ag=>G2 N v1 v4 n ag)
def Dd (N:Nat) (v1:ak) (v4:Int)  :Option Bool :=
 G2 N v1 v4 N 0
def Wk (N:Nat) (v4:Int) (v1:ak) (dk:Int) (kN:Int→Option Bool):Option Bool :=
 bif (decide (dk<v4))then(
 GY N v1 dk v4 kN)else(
 Dd N v1 v4)
def G3 (N:Nat) (v4:Int) (v1:ak)  :Nat→Int→Option Bool
 | 0,_=>none
 | n+1,dk=>Wk N v4 v1 dk  (fun ag=>G3 N v4 v1 n ag)
def G4 (N:Nat) (v4:Int) (v1:ak)  :Option Bool :=
 G3 N v4 v1 N 0
def G5 (N:Nat) (v4:Int) (v1:ak) (mJ:Bool)  :Option Bool :=
 bif mJ then(
 some false)else(
 G4 N v4 v1)
def G6 (N:Nat) (v1:ak) (v4:Int) (gw:Bool)  :Option Bool :=
 bif gw then(
 G5 N v4 v1 true)else(
(tn v1.az 0 200).bind fun zN =>
 G5 N v4 v1 (!zN))
def G7 (N:Nat) (v1:ak) (v4:Int) (v76:Bool)  :Option Bool :=
 bif v76 then(
 G6 N v1 v4 true)else(
(tn v1.ay 0 200).bind fun vh =>
 G6 N v1 v4 (!vh))
def De (N:Nat) (x0:ak):Option Bool :=
(tn (x0.ae.length:Int) 1 600).bind fun aR =>
 bif (!aR)then(
 G7 N x0 (x0.ae.length:Int) true)else(
 G7 N x0 (x0.ae.length:Int) (decide (40<(x0.aM.length:Int))))
abbrev lL (c:Cx) (R:Value→W) (r:Bool):Prop:=∀(g' h':AH),Sep c g' h' []→R (.bool r) h'
theorem apl {w0:World}{c:Cx}{g h:AH}{E R:Value→W}{r:Bool}{N:Nat}{dk:Int}{ij:ak}{G8:Nat}{Aj Ak:Value}{lv:Value→W}{kN:Int→Option Bool}{rJ:AH}(M:Wf N dk ij kN=some r) (S:Sep c g h [.bx G8 [(.string ij.aB),(.string ij.aC),(vi ij.fArgs),(vi ij.ay),(vi ij.az),Aj,Ak]]) (aeS:ab aq.rep 4 g Aj ij.ae) (aeT:ab aK.rep 3 g Ak ij.aM) (vt:Sub rJ g) (vu:∀{ag:Int}{g2 h2:AH},kN ag=some r→Sub rJ g2→Sep c g2 h2 [.bx G8 [(.string ij.aB),(.string ij.aC),(vi ij.fArgs),(vi ij.ay),(vi ij.az),Aj,Ak]]→lv (vi ag) h2) (H:lL c R r):Qo w0 E R (vi dk) lv h:=by
 unfold Qo
 unfold Wf at M
 refine fF.2 ?_
 exact vu M vt S
theorem Wl {w0:World}{c:Cx}{g h:AH}{E R:Value→W}{r:Bool}{N:Nat}{dk:Int}{lO:Bool}{ij:ak}{G8:Nat}{Aj Ak:Value}{lv:Value→W}{kN:Int→Option Bool}{rJ:AH}(M:Dc N dk lO ij kN=some r) (S:Sep c g h [.bx G8 [(.string ij.aB),(.string ij.aC),(vi ij.fArgs),(vi ij.ay),(vi ij.az),Aj,Ak]]) (aeS:ab aq.rep 4 g Aj ij.ae) (aeT:ab aK.rep 3 g Ak ij.aM) (vt:Sub rJ g) (vu:∀{ag:Int}{g2 h2:AH},kN ag=some r→Sub rJ g2→Sep c g2 h2 [.bx G8 [(.string ij.aB),(.string ij.aC),(vi ij.fArgs),(vi ij.ay),(vi ij.az),Aj,Ak]]→lv (vi ag) h2) (H:lL c R r):Qp w0 E R (vi dk) lv (.bool lO) h:=by
 unfold Qp
 unfold Dc at M
 refine bw (fun hc=> ?_) (fun hc=> ?_)
 · have M:=aQ hc M
   cases M
   exact H _ _  S.bH
 · have M:=aS hc M
   exact apl M S aeS aeT vt vu H
theorem apm {w0:World}{c:Cx}{g h:AH}{E R:Value→W}{r:Bool}{N:Nat}{v1:ak}{dk v4:Int}{al:Nat}{av aw:Value}{lv:Value→W}{kN:Int→Option Bool}{rJ:AH}(M:GY N v1 dk v4 kN=some r) (S:Sep c g h [.bx al [(.string v1.aB),(.string v1.aC),(vi v1.fArgs),(vi v1.ay),(vi v1.az),av,aw]]) (aG:ab aq.rep 4 g av v1.ae) (aJ:ab aK.rep 3 g aw v1.aM) (vt:Sub rJ g) (vu:∀{ag:Int}{g2 h2:AH},kN ag=some r→Sub rJ g2→Sep c g2 h2 [.bx al [(.string v1.aB),(.string v1.aC),(vi v1.fArgs),(vi v1.ay),(vi v1.az),av,aw]]→lv (vi ag) h2) (H:lL c R r):Qq w0 E R (au al 0) (vi dk) (vi v4) lv h:=by
 unfold Qq
 unfold GY at M
 refine bC.2 ?_
 refine S.bz 0 rfl rfl ?_
 obtain⟨vr,G9,M⟩:=bind_some M
 refine ab.idx aG G9 (fun aeU aeV vs Wm Wn rp=> ?_)
 cases rp
 refine bC.2 ?_
 refine S.eH (Wn 0 _ rfl) ?_
 obtain⟨mw,apn,M⟩:=bind_some M
 refine Nb apn S.sub S.ok (fun _ h  S1  => ?_)
 have S:=S.dB S1
 refine(eY rfl).2 ?_
 refine(eY rfl).2 ?_
 refine S.alloc (l:=[(vi 0),(vi 0),(vi 0),(vi 0),(vi 0),(vi 0),(.bool false)]) (aa rfl (aa rfl (aa rfl (aa rfl (aa rfl (aa rfl (aa rfl rfl))))))) (fun ao7 h S=> ?_)
 refine S.dv [(vi mw.1.cq.e0),(vi mw.1.cq.e1),(vi mw.1.cq.e2),(vi mw.1.ig),(vi mw.1.cW.e0),(vi mw.1.cW.e1),(.bool mw.1.iE)] [(vi mw.1.cq.e0),(vi mw.1.cq.e1),(vi mw.1.cq.e2),(vi mw.1.ig),(vi mw.1.cW.e0),(vi mw.1.cW.e1),(.bool mw.1.iE)] rfl rfl (aa rfl (aa rfl (aa rfl (aa rfl (aa rfl (aa rfl (aa rfl rfl))))))) (Nat.le_of_ble_eq_true rfl) rfl (fun h S=> ?_)
 refine bC.2 ?_
 refine S.bz 1 rfl rfl ?_
 obtain⟨gO,zS,M⟩:=bind_some M
 refine ab.idx aG zS (fun ao8 awx vs awy apo rp=> ?_)
 cases rp
 refine S.mq apo rfl (by decide) ?_
 obtain⟨nn,Ha,M⟩:=bind_some M
 refine We Ha S.sub S.ok (fun _ h  S1  => ?_)
 have S:=S.dB S1
 refine(eY rfl).2 ?_
 refine(eY rfl).2 ?_
 refine gN.2 ?_
 cases hc:(!mw.2)
 · have M:=aS hc M
   refine ax rfl ?_
   refine ax rfl ?_
   cases hc:nn.2
   · have M:=aS hc M
     refine aA (by decide) ?_
     refine aA (by decide) ?_
     refine aA (by decide) ?_
     refine aA (by decide) ?_
     refine aA (by decide) ?_
     refine ax rfl ?_
     refine bf.2 ?_
     refine bf.2 ?_
     have S:=S.f1
     have S:=S.t1
     exact Wl M S aG aJ vt vu H
   · have M:=aQ hc M
     refine ax rfl ?_
     refine ax rfl ?_
     refine ax rfl ?_
     refine lZ.2 ?_
     refine ax rfl ?_
     obtain⟨tg,Gt,M⟩:=bind_some M
     refine C9 Gt S.sub S.ok (fun _ h  S1  => ?_)
     have S:=S.dB S1
     refine ax rfl ?_
     refine gN.2 ?_
     refine ax rfl ?_
     refine bf.2 ?_
     refine bf.2 ?_
     have S:=S.f1
     have S:=S.t1
     exact Wl M S aG aJ vt vu H
 · have M:=aQ hc M
   refine aA (by decide) ?_
   refine aA (by decide) ?_
   refine eB ?_
   refine eB ?_
   refine eB ?_
   refine eB ?_
   refine eB ?_
   refine aA (by decide) ?_
   refine bf.2 ?_
   have S:=S.f1
   have S:=S.t1
   exact Wl M S aG aJ vt vu H
theorem apq {w0:World}{c:Cx}{g h:AH}{E R:Value→W}{r:Bool}{N:Nat}{y6:Int}{cQ:ak}{rK:Nat}{nW nX:Value}{k5:Value→W}{gP:Int→Option Bool}{my:AH}(M:Wg N y6 cQ gP=some r) (S:Sep c g h [.bx rK [(.string cQ.aB),(.string cQ.aC),(vi cQ.fArgs),(vi cQ.ay),(vi cQ.az),nW,nX]]) (xn:ab aq.rep 4 g nW cQ.ae) (xo:ab aK.rep 3 g nX cQ.aM) (oI:Sub my g) (oJ:∀{ag:Int}{g2 h2:AH},gP ag=some r→Sub my g2→Sep c g2 h2 [.bx rK [(.string cQ.aB),(.string cQ.aC),(vi cQ.fArgs),(vi cQ.ay),(vi cQ.az),nW,nX]]→k5 (vi ag) h2) (H:lL c R r):Qi w0 E R (vi y6) k5 h:=by
 unfold Qi
 unfold Wg at M
 refine fF.2 ?_
 exact oJ M oI S
theorem aeW {w0:World}{c:Cx}{g h:AH}{E R:Value→W}{r:Bool}{N:Nat}{y6:Int}{jh:Bool}{cQ:ak}{rK:Nat}{nW nX:Value}{k5:Value→W}{gP:Int→Option Bool}{my:AH}(M:GZ N y6 jh cQ gP=some r) (S:Sep c g h [.bx rK [(.string cQ.aB),(.string cQ.aC),(vi cQ.fArgs),(vi cQ.ay),(vi cQ.az),nW,nX]]) (xn:ab aq.rep 4 g nW cQ.ae) (xo:ab aK.rep 3 g nX cQ.aM) (oI:Sub my g) (oJ:∀{ag:Int}{g2 h2:AH},gP ag=some r→Sub my g2→Sep c g2 h2 [.bx rK [(.string cQ.aB),(.string cQ.aC),(vi cQ.fArgs),(vi cQ.ay),(vi cQ.az),nW,nX]]→k5 (vi ag) h2) (H:lL c R r):Qj w0 E R (vi y6) k5 (.bool jh) h:=by
 unfold Qj
 unfold GZ at M
 refine bw (fun hc=> ?_) (fun hc=> ?_)
 · have M:=aQ hc M
   cases M
   exact H _ _  S.bH
 · have M:=aS hc M
   exact apq M S xn xo oI oJ H
theorem aeX {w0:World}{c:Cx}{g h:AH}{E R:Value→W}{r:Bool}{N:Nat}{v12:aK}{v4 y6:Int}{eN:Bool}{cQ:ak}{Hb rK:Nat}{nW nX:Value}{k5:Value→W}{gP:Int→Option Bool}{my:AH}(M:G0 N v12 v4 y6 eN cQ gP=some r) (S:Sep c g h [.bx Hb [(vi v12.eD),(vi v12.fg),(vi v12.eg)],.bx rK [(.string cQ.aB),(.string cQ.aC),(vi cQ.fArgs),(vi cQ.ay),(vi cQ.az),nW,nX]]) (xn:ab aq.rep 4 g nW cQ.ae) (xo:ab aK.rep 3 g nX cQ.aM) (oI:Sub my g) (oJ:∀{ag:Int}{g2 h2:AH},gP ag=some r→Sub my g2→Sep c g2 h2 [.bx rK [(.string cQ.aB),(.string cQ.aC),(vi cQ.fArgs),(vi cQ.ay),(vi cQ.az),nW,nX]]→k5 (vi ag) h2) (H:lL c R r):Qk w0 E R (au Hb 0) (vi v4) (vi y6) k5 (.bool eN) h:=by
 unfold Qk
 unfold G0 at M
 cases hc:eN
 · have M:=aS hc M
   refine ax rfl ?_
   refine bC.2 ?_
   refine ax rfl ?_
   refine S.bz 0 rfl rfl ?_
   refine ax rfl ?_
   refine ax rfl ?_
   refine lZ.2 ?_
   refine ax rfl ?_
   obtain⟨G1,Ng,M⟩:=bind_some M
   refine C9 Ng S.sub S.ok (fun _ h  S1  => ?_)
   have S:=S.dB S1
   refine ax rfl ?_
   refine gN.2 ?_
   refine bf.2 ?_
   have S:=S.f1
   have S:=S.t1
   exact aeW M S xn xo oI oJ H
 · have M:=aQ hc M
   refine aA (by decide) ?_
   refine aA (by decide) ?_
   refine aA (by decide) ?_
   refine aA (by decide) ?_
   refine aA (by decide) ?_
   refine aA (by decide) ?_
   refine bf.2 ?_
   have S:=S.f1
   have S:=S.t1
   exact aeW M S xn xo oI oJ H
theorem aeY {w0:World}{c:Cx}{g h:AH}{E R:Value→W}{r:Bool}{N:Nat}{v12:aK}{v4 y6:Int}{dX:Bool}{cQ:ak}{Hb rK:Nat}{nW nX:Value}{k5:Value→W}{gP:Int→Option Bool}{my:AH}(M:Ai N v12 v4 y6 dX cQ gP=some r) (S:Sep c g h [.bx Hb [(vi v12.eD),(vi v12.fg),(vi v12.eg)],.bx rK [(.string cQ.aB),(.string cQ.aC),(vi cQ.fArgs),(vi cQ.ay),(vi cQ.az),nW,nX]]) (xn:ab aq.rep 4 g nW cQ.ae) (xo:ab aK.rep 3 g nX cQ.aM) (oI:Sub my g) (oJ:∀{ag:Int}{g2 h2:AH},gP ag=some r→Sub my g2→Sep c g2 h2 [.bx rK [(.string cQ.aB),(.string cQ.aC),(vi cQ.fArgs),(vi cQ.ay),(vi cQ.az),nW,nX]]→k5 (vi ag) h2) (H:lL c R r):Ql w0 E R (au Hb 0) (vi v4) (vi y6) k5 (.bool dX) h:=by
 unfold Ql
 unfold Ai at M
 cases hc:dX
 · have M:=aS hc M
   refine ax rfl ?_
   refine bC.2 ?_
   refine ax rfl ?_
   refine S.bz 0 rfl rfl ?_
   refine ax rfl ?_
   refine ax rfl ?_
   refine nh.2 ?_
   refine bf.2 ?_
   exact aeX M S xn xo oI oJ H
 · have M:=aQ hc M
   refine aA (by decide) ?_
   refine aA (by decide) ?_
   refine aA (by decide) ?_
   refine aA (by decide) ?_
   refine bf.2 ?_
   exact aeX M S xn xo oI oJ H
theorem apr {w0:World}{c:Cx}{g h:AH}{E R:Value→W}{r:Bool}{N:Nat}{v1:ak}{y6 v4:Int}{al:Nat}{av aw:Value}{k5:Value→W}{gP:Int→Option Bool}{my:AH}(M:Wh N v1 y6 v4 gP=some r) (S:Sep c g h [.bx al [(.string v1.aB),(.string v1.aC),(vi v1.fArgs),(vi v1.ay),(vi v1.az),av,aw]]) (aG:ab aq.rep 4 g av v1.ae) (aJ:ab aK.rep 3 g aw v1.aM) (oI:Sub my g) (oJ:∀{ag:Int}{g2 h2:AH},gP ag=some r→Sub my g2→Sep c g2 h2 [.bx al [(.string v1.aB),(.string v1.aC),(vi v1.fArgs),(vi v1.ay),(vi v1.az),av,aw]]→k5 (vi ag) h2) (H:lL c R r):Qm w0 E R (au al 0) (vi y6) (vi v4) k5 h:=by
 unfold Qm
 unfold Wh at M
 refine bC.2 ?_
 refine S.bz 0 rfl rfl ?_
 obtain⟨iQ,Wo,M⟩:=bind_some M
 refine ab.idx aJ Wo (fun Nh aps vs awz apt rp=> ?_)
 cases rp
 refine S.mq apt rfl (by decide) ?_
 refine S.alloc (l:=[(vi 0),(vi 0),(vi 0)]) (aa rfl (aa rfl (aa rfl rfl))) (fun awA h S=> ?_)
 refine S.dv [(vi iQ.eD),(vi iQ.fg),(vi iQ.eg)] [(vi iQ.eD),(vi iQ.fg),(vi iQ.eg)] rfl rfl (aa rfl (aa rfl (aa rfl rfl))) (Nat.le_of_ble_eq_true rfl) rfl (fun h S=> ?_)
 refine bC.2 ?_
 refine S.bz 0 rfl rfl ?_
 refine eF.2 ?_
 cases hc:(decide (iQ.eD<0))
 · have M:=aS hc M
   refine ax rfl ?_
   refine bC.2 ?_
   refine ax rfl ?_
   refine S.bz 0 rfl rfl ?_
   refine ax rfl ?_
   refine bC.2 ?_
   refine ax rfl ?_
   refine S.bz 0 rfl rfl ?_
   refine ax rfl ?_
   refine pA.2 ?_
   refine bf.2 ?_
   exact aeY M S aG aJ oI oJ H
 · have M:=aQ hc M
   refine aA (by decide) ?_
   refine aA (by decide) ?_
   refine aA (by decide) ?_
   refine aA (by decide) ?_
   refine aA (by decide) ?_
   refine bf.2 ?_
   exact aeY M S aG aJ oI oJ H
theorem apu {w0:World}{c:Cx}{g h:AH}{E R:Value→W}{r:Bool}{N:Nat}   (M:Wi N  =some r) (S:Sep c g h [])   (H:lL c R r):Qh w0 E R  h:=by
 unfold Qh
 unfold Wi at M
 cases M
 exact H _ _  S.bH
theorem apv {w0:World}{c:Cx}{g h:AH}{E R:Value→W}{r:Bool}{N:Nat}{v1:ak}{v4 y6:Int}{al:Nat}{av aw:Value}{k5:Value→W}{gP:Int→Option Bool}{my:AH}(M:Wj N v1 v4 y6 gP=some r) (S:Sep c g h [.bx al [(.string v1.aB),(.string v1.aC),(vi v1.fArgs),(vi v1.ay),(vi v1.az),av,aw]]) (aG:ab aq.rep 4 g av v1.ae) (aJ:ab aK.rep 3 g aw v1.aM) (oI:Sub my g) (oJ:∀{ag:Int}{g2 h2:AH},gP ag=some r→Sub my g2→Sep c g2 h2 [.bx al [(.string v1.aB),(.string v1.aC),(vi v1.fArgs),(vi v1.ay),(vi v1.az),av,aw]]→k5 (vi ag) h2) (H:lL c R r):JO w0 E R (au al 0) (vi v4) k5 (vi y6) h:=by
 unfold JO
 unfold Wj at M
 refine bC.2 ?_
 refine S.bz 0 rfl rfl ?_
 refine aJ.len ?_
 refine eF.2 ?_
 refine bw (fun hc=> ?_) (fun hc=> ?_)
 · have M:=aQ hc M
   exact apr M S aG aJ oI oJ H
 · have M:=aS hc M
   have S:=S.t0
   exact apu M S  H
theorem apw {w0:World}{c:Cx}{E R:Value→W}{r:Bool}{N:Nat}{v1:ak}{v4:Int}{al:Nat}{av aw:Value}   (H:lL c R r):∀(n:Nat){y6:Int}{g h:AH},G2 N v1 v4 n y6=some r→Sep c g h [.bx al [(.string v1.aB),(.string v1.aC),(vi v1.fArgs),(vi v1.ay),(vi v1.az),av,aw]]→ab aq.rep 4 g av v1.ae→ab aK.rep 3 g aw v1.aM→eS (α:=Value) (fun k a=>JO w0 E R (au al 0) (vi v4) k a) n (vi y6) h:=by
 intro n
 induction n with
 | zero =>
  intro y6  g h M S aG aJ
  unfold G2 at M;cases M
 | succ n ih =>
  intro y6  g h M S aG aJ
  exact apv M S aG aJ  (Sub.refl g) (fun M2 sub S2  =>ih M2 S2 (ab.mono aG aq.mono sub) (ab.mono aJ aK.mono sub)) H
theorem apx {w0:World}{c:Cx}{g h:AH}{E R:Value→W}{r:Bool}{N:Nat}{v1:ak}{v4:Int}{al:Nat}{av aw:Value}  (M:Dd N v1 v4=some r) (S:Sep c g h [.bx al [(.string v1.aB),(.string v1.aC),(vi v1.fArgs),(vi v1.ay),(vi v1.az),av,aw]]) (aG:ab aq.rep 4 g av v1.ae) (aJ:ab aK.rep 3 g aw v1.aM)  (H:lL c R r):Qn w0 E R (au al 0) (vi v4) h:=by
 unfold Qn
 unfold Dd at M
 exact⟨N,apw  H _ M S aG aJ⟩
theorem apy {w0:World}{c:Cx}{g h:AH}{E R:Value→W}{r:Bool}{N:Nat}{v4:Int}{v1:ak}{dk:Int}{al:Nat}{av aw:Value}{lv:Value→W}{kN:Int→Option Bool}{rJ:AH}(M:Wk N v4 v1 dk kN=some r) (S:Sep c g h [.bx al [(.string v1.aB),(.string v1.aC),(vi v1.fArgs),(vi v1.ay),(vi v1.az),av,aw]]) (aG:ab aq.rep 4 g av v1.ae) (aJ:ab aK.rep 3 g aw v1.aM) (vt:Sub rJ g) (vu:∀{ag:Int}{g2 h2:AH},kN ag=some r→Sub rJ g2→Sep c g2 h2 [.bx al [(.string v1.aB),(.string v1.aC),(vi v1.fArgs),(vi v1.ay),(vi v1.az),av,aw]]→lv (vi ag) h2) (H:lL c R r):JP w0 E R (vi v4) (au al 0) lv (vi dk) h:=by
 unfold JP
 unfold Wk at M
 refine eF.2 ?_
 refine bw (fun hc=> ?_) (fun hc=> ?_)
 · have M:=aQ hc M
   exact apm M S aG aJ vt vu H
 · have M:=aS hc M
   exact apx M S aG aJ H
theorem apz {w0:World}{c:Cx}{E R:Value→W}{r:Bool}{N:Nat}{v4:Int}{v1:ak}{al:Nat}{av aw:Value}   (H:lL c R r):∀(n:Nat){dk:Int}{g h:AH},G3 N v4 v1 n dk=some r→Sep c g h [.bx al [(.string v1.aB),(.string v1.aC),(vi v1.fArgs),(vi v1.ay),(vi v1.az),av,aw]]→ab aq.rep 4 g av v1.ae→ab aK.rep 3 g aw v1.aM→eS (α:=Value) (fun k a=>JP w0 E R (vi v4) (au al 0) k a) n (vi dk) h:=by
 intro n
 induction n with
 | zero =>
  intro dk  g h M S aG aJ
  unfold G3 at M;cases M
 | succ n ih =>
  intro dk  g h M S aG aJ
  exact apy M S aG aJ  (Sub.refl g) (fun M2 sub S2  =>ih M2 S2 (ab.mono aG aq.mono sub) (ab.mono aJ aK.mono sub)) H
theorem apA {w0:World}{c:Cx}{g h:AH}{E R:Value→W}{r:Bool}{N:Nat}{v4:Int}{v1:ak}{al:Nat}{av aw:Value}  (M:G4 N v4 v1=some r) (S:Sep c g h [.bx al [(.string v1.aB),(.string v1.aC),(vi v1.fArgs),(vi v1.ay),(vi v1.az),av,aw]]) (aG:ab aq.rep 4 g av v1.ae) (aJ:ab aK.rep 3 g aw v1.aM)  (H:lL c R r):Qr w0 E R (vi v4) (au al 0) h:=by
 unfold Qr
 unfold G4 at M
 exact⟨N,apz  H _ M S aG aJ⟩
theorem aeZ {w0:World}{c:Cx}{g h:AH}{E R:Value→W}{r:Bool}{N:Nat}{v4:Int}{v1:ak}{mJ:Bool}{al:Nat}{av aw:Value}  (M:G5 N v4 v1 mJ=some r) (S:Sep c g h [.bx al [(.string v1.aB),(.string v1.aC),(vi v1.fArgs),(vi v1.ay),(vi v1.az),av,aw]]) (aG:ab aq.rep 4 g av v1.ae) (aJ:ab aK.rep 3 g aw v1.aM)  (H:lL c R r):Qs w0 E R (vi v4) (au al 0) (.bool mJ) h:=by
 unfold Qs
 unfold G5 at M
 refine bw (fun hc=> ?_) (fun hc=> ?_)
 · have M:=aQ hc M
   cases M
   exact H _ _  S.bH
 · have M:=aS hc M
   exact apA M S aG aJ H
theorem ae0 {w0:World}{c:Cx}{g h:AH}{E R:Value→W}{r:Bool}{N:Nat}{v1:ak}{v4:Int}{gw:Bool}{al:Nat}{av aw:Value}  (M:G6 N v1 v4 gw=some r) (S:Sep c g h [.bx al [(.string v1.aB),(.string v1.aC),(vi v1.fArgs),(vi v1.ay),(vi v1.az),av,aw]]) (aG:ab aq.rep 4 g av v1.ae) (aJ:ab aK.rep 3 g aw v1.aM)  (H:lL c R r):Qt w0 E R (au al 0) (vi v4) (.bool gw) h:=by
 unfold Qt
 unfold G6 at M
 cases hc:gw
 · have M:=aS hc M
   refine ax rfl ?_
   refine bC.2 ?_
   refine ax rfl ?_
   refine S.bz 0 rfl rfl ?_
   refine ax rfl ?_
   obtain⟨zN,Vv,M⟩:=bind_some M
   refine C9 Vv S.sub S.ok (fun _ h  S1  => ?_)
   have S:=S.dB S1
   refine ax rfl ?_
   refine gN.2 ?_
   refine bf.2 ?_
   exact aeZ M S aG aJ H
 · have M:=aQ hc M
   refine aA (by decide) ?_
   refine aA (by decide) ?_
   refine aA (by decide) ?_
   refine aA (by decide) ?_
   refine bf.2 ?_
   exact aeZ M S aG aJ H
theorem ae1 {w0:World}{c:Cx}{g h:AH}{E R:Value→W}{r:Bool}{N:Nat}{v1:ak}{v4:Int}{v76:Bool}{al:Nat}{av aw:Value}  (M:G7 N v1 v4 v76=some r) (S:Sep c g h [.bx al [(.string v1.aB),(.string v1.aC),(vi v1.fArgs),(vi v1.ay),(vi v1.az),av,aw]]) (aG:ab aq.rep 4 g av v1.ae) (aJ:ab aK.rep 3 g aw v1.aM)  (H:lL c R r):Qu w0 E R (au al 0) (vi v4) (.bool v76) h:=by
 unfold Qu
 unfold G7 at M
 cases hc:v76
 · have M:=aS hc M
   refine ax rfl ?_
   refine bC.2 ?_
   refine ax rfl ?_
   refine S.bz 0 rfl rfl ?_
   refine ax rfl ?_
   obtain⟨vh,Gu,M⟩:=bind_some M
   refine C9 Gu S.sub S.ok (fun _ h  S1  => ?_)
   have S:=S.dB S1
   refine ax rfl ?_
   refine gN.2 ?_
   refine bf.2 ?_
   exact ae0 M S aG aJ H
 · have M:=aQ hc M
   refine aA (by decide) ?_
   refine aA (by decide) ?_
   refine aA (by decide) ?_
   refine aA (by decide) ?_
   refine bf.2 ?_
   exact ae0 M S aG aJ H
theorem ae2 {w0:World}{g h:AH}{Q:CR→AH→Prop}{r:Bool}{N:Nat}{x0:ak}{cU cV:Value}(M:De N x0=some r) (sg:Sub g h) (ok:h.Ok) (cv:ab aq.rep 4 g cU x0.ae) (cZ:ab aK.rep 3 g cV x0.aM) (H:lL ⟨g,h,[]⟩ (fun v=>Q (.ret v)) r):WF PP w0 JQ [(.agg ⟨[(.string x0.aB),(.string x0.aC),(vi x0.fArgs),(vi x0.ay),(vi x0.az),cU,cV]⟩)] h Q:=by
 refine aiN _ ?_
 have S:=Sep.start sg ok
 unfold ZI
 unfold De at M
 refine S.box [(.string x0.aB),(.string x0.aC),(vi x0.fArgs),(vi x0.ay),(vi x0.az),cU,cV] rfl (aa rfl (aa rfl (aa rfl (aa rfl (aa rfl (aa cv.one (aa cZ.one rfl))))))) (fun jl h S=> ?_)
 refine bC.2 ?_
 refine S.bz 0 rfl rfl ?_
 refine cv.len ?_
 obtain⟨aR,jc,M⟩:=bind_some M
 refine C9 jc S.sub S.ok (fun _ h  S1  => ?_)
 have S:=S.dB S1
 refine gN.2 ?_
 cases hc:(!aR)
 · have M:=aS hc M
   refine ax rfl ?_
   refine bC.2 ?_
   refine ax rfl ?_
   refine S.bz 0 rfl rfl ?_
   refine ax rfl ?_
   refine cZ.len ?_
   refine ax rfl ?_
   refine nh.2 ?_
   refine bf.2 ?_
   exact ae1 M S cv cZ H
 · have M:=aQ hc M
   refine aA (by decide) ?_
   refine aA (by decide) ?_
   refine aA (by decide) ?_
   refine aA (by decide) ?_
   refine bf.2 ?_
   exact ae1 M S cv cZ H
def Ni (N:Nat) (y2:Int) (iF:Int→Option Bool):Option Bool :=
 iF (bD .i64 (y2+1))
def Nj (N:Nat) (x0:List Int) (y2:Int) (x1:List Int) (iF:Int→Option Bool):Option Bool :=
(ix x0 y2).bind fun gG =>
(ix x1 y2).bind fun eM =>
 bif (!decide (gG=eM))then(
 some false)else(
 Ni N y2 iF)
def Wp (N:Nat)   :Option Bool :=
 some true
def Al (N:Nat) (x0:List Int) (x1:List Int) (y2:Int) (iF:Int→Option Bool):Option Bool :=
 bif (decide (y2<(x0.length:Int)))then(
 Nj N x0 y2 x1 iF)else(
 Wp N)
def Hc (N:Nat) (x0:List Int) (x1:List Int)  :Nat→Int→Option Bool
 | 0,_=>none
 | n+1,y2=>Al N x0 x1 y2  (fun ag=>Hc N x0 x1 n ag)
def Nk (N:Nat) (x0:List Int) (x1:List Int)  :Option Bool :=
 Hc N x0 x1 N 0
def CM (N:Nat) (x0:List Int) (x1:List Int):Option Bool :=
 bif (!decide ((x0.length:Int)=(x1.length:Int)))then(
 some false)else(
 Nk N x0 x1)
abbrev Am (c:Cx) (R:Value→W) (r:Bool):Prop:=∀(g' h':AH),Sep c g' h' []→R (.bool r) h'
theorem apB {w0:World}{c:Cx}{g h:AH}{E R:Value→W}{r:Bool}{N:Nat}{y2:Int}{k1:Value→W}{iF:Int→Option Bool}{mz:AH}(M:Ni N y2 iF=some r) (S:Sep c g h [])  (rM:Sub mz g) (rN:∀{ag:Int}{g2 h2:AH},iF ag=some r→Sub mz g2→Sep c g2 h2 []→k1 (vi ag) h2) (H:Am c R r):Pq w0 E R (vi y2) k1 h:=by
 unfold Pq
 unfold Ni at M
 refine fF.2 ?_
 exact rN M rM S
theorem apC {w0:World}{c:Cx}{g h:AH}{E R:Value→W}{r:Bool}{N:Nat}{x0:List Int}{y2:Int}{x1:List Int}{bI cA:Value}{k1:Value→W}{iF:Int→Option Bool}{mz:AH}(M:Nj N x0 y2 x1 iF=some r) (S:Sep c g h []) (cw:ab (rI .i64) 1 g bI x0) (c7:ab (rI .i64) 1 g cA x1) (rM:Sub mz g) (rN:∀{ag:Int}{g2 h2:AH},iF ag=some r→Sub mz g2→Sep c g2 h2 []→k1 (vi ag) h2) (H:Am c R r):Ps w0 E R bI (vi y2) cA k1 h:=by
 unfold Ps
 unfold Nj at M
 obtain⟨gG,mv,M⟩:=bind_some M
 refine ab.idx cw mv (fun Ad GJ vs E_6 GK rp=> ?_)
 cases rp
 refine S.eH (GK 0 _ rfl) ?_
 obtain⟨eM,l4,M⟩:=bind_some M
 refine ab.idx c7 l4 (fun b_9 awB vs ae3 apD rp=> ?_)
 cases rp
 refine S.eH (apD 0 _ rfl) ?_
 refine oy.2 ?_
 refine bw (fun hc=> ?_) (fun hc=> ?_)
 · have M:=aQ hc M
   cases M
   exact H _ _  S.bH
 · have M:=aS hc M
   exact apB M S rM rN H
theorem apE {w0:World}{c:Cx}{g h:AH}{E R:Value→W}{r:Bool}{N:Nat}   (M:Wp N  =some r) (S:Sep c g h [])   (H:Am c R r):Pp w0 E R  h:=by
 unfold Pp
 unfold Wp at M
 cases M
 exact H _ _  S.bH
theorem apF {w0:World}{c:Cx}{g h:AH}{E R:Value→W}{r:Bool}{N:Nat}{x0 x1:List Int}{y2:Int}{bI cA:Value}{k1:Value→W}{iF:Int→Option Bool}{mz:AH}(M:Al N x0 x1 y2 iF=some r) (S:Sep c g h []) (cw:ab (rI .i64) 1 g bI x0) (c7:ab (rI .i64) 1 g cA x1) (rM:Sub mz g) (rN:∀{ag:Int}{g2 h2:AH},iF ag=some r→Sub mz g2→Sep c g2 h2 []→k1 (vi ag) h2) (H:Am c R r):Jr w0 E R bI cA k1 (vi y2) h:=by
 unfold Jr
 unfold Al at M
 refine cw.len ?_
 refine eF.2 ?_
 refine bw (fun hc=> ?_) (fun hc=> ?_)
 · have M:=aQ hc M
   exact apC M S cw c7 rM rN H
 · have M:=aS hc M
   exact apE M S  H
theorem apG {w0:World}{c:Cx}{E R:Value→W}{r:Bool}{N:Nat}{x0 x1:List Int}{bI cA:Value}   (H:Am c R r):∀(n:Nat){y2:Int}{g h:AH},Hc N x0 x1 n y2=some r→Sep c g h []→ab (rI .i64) 1 g bI x0→ab (rI .i64) 1 g cA x1→eS (α:=Value) (fun k a=>Jr w0 E R bI cA k a) n (vi y2) h:=by
 intro n
 induction n with
 | zero =>
  intro y2  g h M S cw c7
  unfold Hc at M;cases M
 | succ n ih =>
  intro y2  g h M S cw c7
  exact apF M S cw c7  (Sub.refl g) (fun M2 sub S2  =>ih M2 S2 (ab.mono cw (du .i64) sub) (ab.mono c7 (du .i64) sub)) H
theorem apH {w0:World}{c:Cx}{g h:AH}{E R:Value→W}{r:Bool}{N:Nat}{x0 x1:List Int}{bI cA:Value}  (M:Nk N x0 x1=some r) (S:Sep c g h []) (cw:ab (rI .i64) 1 g bI x0) (c7:ab (rI .i64) 1 g cA x1)  (H:Am c R r):Pt w0 E R bI cA h:=by
 unfold Pt
 unfold Nk at M
 exact⟨N,apG  H _ M S cw c7⟩
theorem ad9 {w0:World}{g h:AH}{Q:CR→AH→Prop}{r:Bool}{N:Nat}{x0 x1:List Int}{bI cA:Value}(M:CM N x0 x1=some r) (sg:Sub g h) (ok:h.Ok) (cw:ab (rI .i64) 1 g bI x0) (c7:ab (rI .i64) 1 g cA x1) (H:Am ⟨g,h,[]⟩ (fun v=>Q (.ret v)) r):WF PP w0 Js [bI,cA] h Q:=by
 refine aiw _ _ ?_
 have S:=Sep.start sg ok
 unfold Zp
 unfold CM at M
 refine cw.len ?_
 refine c7.len ?_
 refine oy.2 ?_
 refine bw (fun hc=> ?_) (fun hc=> ?_)
 · have M:=aQ hc M
   cases M
   exact H _ _  S.bH
 · have M:=aS hc M
   exact apH M S cw c7 H
def Ao (v1:ak) (cS:Bool)  :Option Bool :=
 bif cS then(
 bif (decide ((v1.aM.length:Int)≤8))then(
 some true)else(
 bif (decide (40<(v1.aM.length:Int)))then(
 some (decide ((v1.aM.length:Int)≤60)))else(
 some false)))else(
 some false)
def zQ (x0:ak):Option Bool :=
 bif (decide ((x0.ae.length:Int)≤40))then(
 Ao x0 true)else(
 bif (decide (600<(x0.ae.length:Int)))then(
 Ao x0 (decide ((x0.ae.length:Int)≤700)))else(
 Ao x0 false))
abbrev ae4 (c:Cx) (R:Value→W) (r:Bool):Prop:=∀(g' h':AH),Sep c g' h' []→R (.bool r) h'
theorem Wq {w0:World}{c:Cx}{g h:AH}{E R:Value→W}{r:Bool}{v1:ak}{cS:Bool}{al:Nat}{av aw:Value}  (M:Ao v1 cS=some r) (S:Sep c g h [.bx al [(.string v1.aB),(.string v1.aC),(vi v1.fArgs),(vi v1.ay),(vi v1.az),av,aw]]) (aG:ab aq.rep 4 g av v1.ae) (aJ:ab aK.rep 3 g aw v1.aM)  (H:ae4 c R r):P0 w0 E R (au al 0) (.bool cS) h:=by
 unfold P0
 unfold Ao at M
 cases hc:cS
 · have M:=aS hc M
   refine aA (by decide) ?_
   refine aA (by decide) ?_
   refine aA (by decide) ?_
   refine aA (by decide) ?_
   refine aA (by decide) ?_
   refine eB ?_
   refine eB ?_
   refine eB ?_
   refine eB ?_
   refine eB ?_
   refine eB ?_
   refine eB ?_
   refine eB ?_
   refine eB ?_
   refine eB ?_
   refine aA (by decide) ?_
   refine bf.2 ?_
   cases M
   exact H _ _  S.bH
 · have M:=aQ hc M
   refine ax rfl ?_
   refine bC.2 ?_
   refine ax rfl ?_
   refine S.bz 0 rfl rfl ?_
   refine ax rfl ?_
   refine aJ.len ?_
   refine ax rfl ?_
   refine pz.2 ?_
   refine ax rfl ?_
   cases hc:(decide ((v1.aM.length:Int)≤8))
   · have M:=aS hc M
     refine ax rfl ?_
     refine bC.2 ?_
     refine ax rfl ?_
     refine S.bz 0 rfl rfl ?_
     refine ax rfl ?_
     refine aJ.len ?_
     refine ax rfl ?_
     refine nh.2 ?_
     refine ax rfl ?_
     cases hc:(decide (40<(v1.aM.length:Int)))
     · have M:=aS hc M
       refine aA (by decide) ?_
       refine aA (by decide) ?_
       refine aA (by decide) ?_
       refine aA (by decide) ?_
       refine ax rfl ?_
       refine bf.2 ?_
       refine ax rfl ?_
       refine bf.2 ?_
       refine bf.2 ?_
       cases M
       exact H _ _  S.bH
     · have M:=aQ hc M
       refine ax rfl ?_
       refine bC.2 ?_
       refine ax rfl ?_
       refine S.bz 0 rfl rfl ?_
       refine ax rfl ?_
       refine aJ.len ?_
       refine ax rfl ?_
       refine pz.2 ?_
       refine ax rfl ?_
       refine bf.2 ?_
       refine ax rfl ?_
       refine bf.2 ?_
       refine bf.2 ?_
       cases M
       exact H _ _  S.bH
   · have M:=aQ hc M
     refine aA (by decide) ?_
     refine aA (by decide) ?_
     refine aA (by decide) ?_
     refine aA (by decide) ?_
     refine aA (by decide) ?_
     refine eB ?_
     refine eB ?_
     refine eB ?_
     refine eB ?_
     refine aA (by decide) ?_
     refine ax rfl ?_
     refine bf.2 ?_
     refine bf.2 ?_
     cases M
     exact H _ _  S.bH
theorem aof {w0:World}{g h:AH}{Q:CR→AH→Prop}{r:Bool}{x0:ak}{cU cV:Value}(M:zQ x0=some r) (sg:Sub g h) (ok:h.Ok) (cv:ab aq.rep 4 g cU x0.ae) (cZ:ab aK.rep 3 g cV x0.aM) (H:ae4 ⟨g,h,[]⟩ (fun v=>Q (.ret v)) r):WF PP w0 P1 [(.agg ⟨[(.string x0.aB),(.string x0.aC),(vi x0.fArgs),(vi x0.ay),(vi x0.az),cU,cV]⟩)] h Q:=by
 refine aiJ _ ?_
 have S:=Sep.start sg ok
 unfold ZB
 unfold zQ at M
 refine S.box [(.string x0.aB),(.string x0.aC),(vi x0.fArgs),(vi x0.ay),(vi x0.az),cU,cV] rfl (aa rfl (aa rfl (aa rfl (aa rfl (aa rfl (aa cv.one (aa cZ.one rfl))))))) (fun jl h S=> ?_)
 refine bC.2 ?_
 refine S.bz 0 rfl rfl ?_
 refine cv.len ?_
 refine pz.2 ?_
 cases hc:(decide ((x0.ae.length:Int)≤40))
 · have M:=aS hc M
   refine ax rfl ?_
   refine bC.2 ?_
   refine ax rfl ?_
   refine S.bz 0 rfl rfl ?_
   refine ax rfl ?_
   refine cv.len ?_
   refine ax rfl ?_
   refine nh.2 ?_
   refine ax rfl ?_
   cases hc:(decide (600<(x0.ae.length:Int)))
   · have M:=aS hc M
     refine aA (by decide) ?_
     refine aA (by decide) ?_
     refine aA (by decide) ?_
     refine aA (by decide) ?_
     refine ax rfl ?_
     refine bf.2 ?_
     refine bf.2 ?_
     exact Wq M S cv cZ H
   · have M:=aQ hc M
     refine ax rfl ?_
     refine bC.2 ?_
     refine ax rfl ?_
     refine S.bz 0 rfl rfl ?_
     refine ax rfl ?_
     refine cv.len ?_
     refine ax rfl ?_
     refine pz.2 ?_
     refine ax rfl ?_
     refine bf.2 ?_
     refine bf.2 ?_
     exact Wq M S cv cZ H
 · have M:=aQ hc M
   refine aA (by decide) ?_
   refine aA (by decide) ?_
   refine aA (by decide) ?_
   refine aA (by decide) ?_
   refine aA (by decide) ?_
   refine eB ?_
   refine eB ?_
   refine eB ?_
   refine eB ?_
   refine aA (by decide) ?_
   refine bf.2 ?_
   exact Wq M S cv cZ H
end
end Go.Ve.T
