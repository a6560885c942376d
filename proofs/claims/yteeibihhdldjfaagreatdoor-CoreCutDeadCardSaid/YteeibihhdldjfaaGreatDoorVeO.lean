/- Part 15: functions that are known by a contract; closed calls that give constants. No condition. And more. -/
import Derived.Test.YteeibihhdldjfaaGreatDoorVeN
import Derived.Lib.Join
import Derived.Lib.ItoaNum
import Derived.Lib.Atoi
set_option linter.unusedVariables false
set_option linter.unusedSimpArgs false
namespace Go.Ve
open Go.RowKit
theorem HR.behind {P w0 w w' φ h}(H:HR P w0 φ h w)(hb:Below w.heap.size w w'):HR P w0 φ h w':=by
 refine⟨H.inj,H.fresh,H.top,H.dead,fun f b d n hf=>?_,?_⟩
 · obtain⟨o,o',a1,a2,a3⟩:=H.obj f b d n hf;exact⟨o,o',a1,by rw [hb.block b (Array.getElem?_eq_some_iff.1 a2).1];exact a2,a3⟩
 · have h1:=H.below;exact⟨hb.os.trans h1.os,hb.tape.trans h1.tape,hb.output.trans h1.output,zay h1.size (zay (by simp) hb.size),fun k hk=>by rw [hb.block k (za1 hk h1.size)];exact h1.block k hk⟩
theorem Mc {P:Program}{w0:World}{f:FuncId}{S:ZZE→AH→(CR→AH→Bool)→Bool}(kq:Can P f)
 (hS:∀args h k φ args' w,S args h k=true→LR φ args args'.toList→HR P w0 φ h w→∃v c,VR φ v c∧k (.ret v) h=true∧Calls P f args' w fun E w'=>E= .returned c∧Below w.heap.size w w'):
 ∀(args:ZZE) (h:AH) (k:CR→AH→Bool),S args h k=true→lz P w0 f args h k:=by
 intro args h k e;refine⟨kq,fun φ args' w hl H=>?_⟩;obtain⟨v,c,h1,h2,h3⟩:=hS args h k φ args' w e hl H;refine Calls.mono h3 fun E w' hE=>?_;exact⟨.ret v,h,φ,h2,Ext.refl _ _,zad _,H.behind hE.2,c,hE.1,h1⟩
def Ic:Z→Z→Bool | .bool a,.bool b=>bif a then b else !b | .int k a,.int l b=>jE k l&&qp a b | .string a,.string b=>nN a.data.toList b.data.toList | .nilIface,.nilIface=>true | _,_=>false
def TQ:ZZE→ZZE→Bool | [],[]=>true | a::l,b::m=>Ic a b&&TQ l m | _,_=>false
def TS:Z→Z→Bool | .agg ⟨l⟩,.agg ⟨m⟩=>TQ l m | a,b=>Ic a b
def Md:ZZE→ZZE→Bool | [],[]=>true | a::l,b::m=>TS a b&&Md l m | _,_=>false
def Fw:Z→Z→Bool | .agg ⟨l⟩,.agg ⟨m⟩=>Md l m | .tuple ⟨l⟩,.tuple ⟨m⟩=>Md l m | a,b=>Ic a b
def Plain (a b:Z):Prop:=∀φ,VR φ a b∧∀v,VR φ a v→v=b
def AQ (l m:ZZE):Prop:=∀φ,LR φ l m∧∀l',LR φ l l'→l'=m
theorem AQ.nil:AQ [] []:=fun φ=>⟨.nil,fun l' h=>by cases h;rfl⟩
theorem AQ.cons {a b l m}(h:Plain a b)(hl:AQ l m):AQ (a::l) (b::m):=fun φ=>
 ⟨.cons _ _ _ _ (h φ).1 (hl φ).1,fun l' h'=>by
  cases h' with | cons _ v _ l2 h1 h2=>rw [(h φ).2 v h1,(hl φ).2 l2 h2]⟩
theorem alR:∀ {a b},nN a b=true→a=b
 | [],[],_=>rfl
 | x::l,y::m,h=>by
  have h':(bif Nat.beq x.toNat y.toNat then nN l m else false)=true:=h;cases hx:Nat.beq x.toNat y.toNat with
  | false=>rw [hx]at h';cases h'
  | true=>
   rw [hx,zam]at h';rw [alR h',UInt8.toNat_inj.1 (zar hx)]
 | [],_::_,h=>by cases h
 | _::_,[],h=>by cases h
theorem acP {a b}(h:Ic a b=true):Plain a b:=by
 unfold Ic at h;split at h
 · rename_i a b;have:a=b:=by cases a<;>cases b<;>simp_all
   subst this;exact fun φ=>⟨.bool _,fun v hv=>hv.yi⟩
 · rename_i k a l b;rw [zae]at h;obtain rfl:=uO h.1;obtain rfl:a=b:=by have:=h.2;rw [Ak]at this;simpa using this
   exact fun φ=>⟨.int _ _,fun v hv=>hv.lj⟩
 · rename_i a b;have h1:=alR h
   have:a=b:=by
    apply ByteArray.ext;exact Array.toList_inj.1 h1
   subst this;exact fun φ=>⟨.str _,fun v hv=>hv.od⟩
 · exact fun φ=>⟨.Hv,fun v hv=>by cases hv;rfl⟩
 · cases h
theorem alS:∀ {l m},TQ l m=true→AQ l m
 | [],[],_=>.nil
 | a::l,b::m,h=>by
  have h':(Ic a b&&TQ l m)=true:=h;rw [zae]at h';exact .cons (acP h'.1) (alS h'.2)
 | [],_::_,h=>by cases h
 | _::_,[],h=>by cases h
theorem Plain.agg {l m}(h:AQ l m):Plain (.agg ⟨l⟩) (.agg ⟨m⟩):=fun φ=>⟨.agg _ _ (h φ).1,fun v hv=>by
 obtain⟨a',rfl,h'⟩:=hv.Fx;have:=(h φ).2 _ h';cases a';simp_all⟩
theorem Plain.ko {l m}(h:AQ l m):Plain (.tuple ⟨l⟩) (.tuple ⟨m⟩):=fun φ=>⟨.ko _ _ (h φ).1,fun v hv=>by
 obtain⟨a',rfl,h'⟩:=hv.alT;have:=(h φ).2 _ h';cases a';simp_all⟩
theorem axv {a b}(h:TS a b=true):Plain a b:=by
 unfold TS at h;split at h
 · exact .agg (alS h)
 · exact acP h
theorem acQ:∀ {l m},Md l m=true→AQ l m
 | [],[],_=>.nil
 | a::l,b::m,h=>by
  have h':(TS a b&&Md l m)=true:=h;rw [zae]at h';exact .cons (axv h'.1) (acQ h'.2)
 | [],_::_,h=>by cases h
 | _::_,[],h=>by cases h
theorem Me {a b}(h:Fw a b=true):Plain a b:=by
 unfold Fw at h;split at h
 · exact .agg (acQ h)
 · exact .ko (acQ h)
 · exact acP h
def isC (c:Z) (r:CR) (_:AH):Bool:=CR.casesOn (motive:=fun _=>Bool) r (fun v=>Fw v c) (fun _=>false)
theorem axw {P}(cq:P.follows .mixedOrders=true){prog:NT lv}(xc:∀f af,prog.get f=some af→c7 P f=some af){sums:Aw}{w:World}(acF:Td P w sums){n:Nat}{f:FuncId}{args:ZZE}{args':Array Z}{c:Z}
 (h:ev prog sums n (.call f args ⟨0,.e⟩ (isC c))=true) (hl:LR (fun _=>none) args args'.toList):Can P f∧Calls P f args' w fun E w'=>E= .returned c∧Below w.heap.size w w':=by
 have hC:lz P w f args ⟨0,.e⟩ (isC c):=ak5 cq xc acF n _ h;refine⟨hC.1,Calls.mono (hC.2 (fun _=>none) args' w hl (HR.bare P w)) fun E w' hR=>?_⟩;obtain⟨r,h',φ',h1,h2,h3,h4,h5⟩:=hR;cases r with
 | bC v=>cases h1
 | ret v=>
  obtain⟨v',rfl,hv⟩:=h5;exact⟨by rw [(Me h1 φ').2 v' hv],h4.below⟩
end Go.Ve
namespace Go.Ve
open Go.RowKit
noncomputable section
def Mf (f:Nat) (n:Nat) (acc:List UInt8) (k:List UInt8→Bool):Bool:=match f with | 0=>false | f+1=>bif Nat.ble 10 n then fN (Nat.div n 10) fun q=>Mf f q (UInt8.ofNat (Nat.add 48 (Nat.mod n 10))::acc) k else k (UInt8.ofNat (Nat.add 48 n)::acc)
def alU (vs:ZZE) (h:AH) (k:CR→AH→Bool):Bool:=a1 vs fun v=>pN v fun kd n=>iff (jE kd .i64) (match n with | .ofNat a=>iff (Nat.ble a 9223372036854775807) (Mf 25 a [] fun l=>k (.ret (.string ⟨⟨l⟩⟩)) h) | .negSucc a=>iff (Nat.ble a 9223372036854775807) (fN (Nat.succ a) fun a=>Mf 25 a [] fun l=>k (.ret (.string ⟨⟨45::l⟩⟩)) h))
def alV (vs:ZZE) (h:AH) (k:CR→AH→Bool):Bool:=a1 vs fun v=>mX v fun s=>iff (Nat.ble s.data.toList.length 18) (match Go.Lib.atoi s.data.toList with | some n=>fI n fun n=>k (.ret (.tuple ⟨[.int .i64 n,.nilIface]⟩)) h | none=>false)
def TT (sep:List UInt8):ZZE→(List UInt8→Bool)→Bool | [],k=>k [] | [v],k=>mX v fun s=>k s.data.toList | v::l,k=>mX v fun s=>TT sep l fun m=>AB sep m fun m=>AB s.data.toList m k
def alW (vs:ZZE) (h:AH) (k:CR→AH→Bool):Bool:=a2 vs fun v s=>mX s fun sep=>pO v false fun b o n c=>iff (Nat.ble 1 n&&Nat.ble n 65536) (pL h b o n fun l=>TT sep.data.toList l fun m=>iff (Nat.ble m.length 1048576) (k (.ret (.string ⟨⟨m⟩⟩)) h))
theorem acR:∀(f n:Nat){acc:List UInt8}{k:List UInt8→Bool},Mf f n acc k=true→k (Lib.decDigits n++acc)=true
 | 0,n,acc,k,h=>by cases h
 | f+1,n,acc,k,h=>by
  have h1:(bif Nat.ble 10 n then fN (Nat.div n 10) fun q=>Mf f q (UInt8.ofNat (Nat.add 48 (Nat.mod n 10))::acc) k else k (UInt8.ofNat (Nat.add 48 n)::acc))=true:=h
  by_cases hn:10≤n
  · rw [show Nat.ble 10 n=true from Nat.ble_eq_true_of_le hn,zam,dG]at h1;have h2:k (Lib.decDigits (n / 10)++(UInt8.ofNat (48+n % 10)::acc))=true:=acR f _ h1;rw [Lib.decDigits,dif_neg (by omega)];simpa using h2
  · rw [show Nat.ble 10 n=false by rw [B6];simpa using hn,zak]at h1;rw [Lib.decDigits,dif_pos (by omega)];exact h1
theorem axx {P w0 f}(kq:Can P f)
 (hI:∀(n:Int) (w:World),-9223372036854775808≤n→n≤9223372036854775807→Below w0.heap.size w0 w→Calls P f #[.int .i64 n] w fun e w'=>e= .returned (.string ⟨(Lib.itoa n).toArray⟩)∧Below w.heap.size w w'):
 ∀(args:ZZE) (h:AH) (k:CR→AH→Bool),alU args h k=true→lz P w0 f args h k:=by
 refine Mc kq fun args h k φ args' w e hl H=>?_;obtain⟨L,hL⟩:∃L,args'.toList=L:=⟨_,rfl⟩;rw [hL]at hl;obtain⟨v,rfl,e1⟩:=iU e;obtain⟨kd,n,rfl,e2⟩:=tt e1;obtain⟨e3,e4⟩:=dX e2;obtain rfl:=uO e3
 have oV:args'= #[.int .i64 n]:=by
  cases hl with | cons _ v' _ l' h1 h2=>cases h2;apply za8;rw [hL,h1.lj]
 subst oV;refine⟨.string ⟨(Lib.itoa n).toArray⟩,_,.str _,?_,hI n w ?_ ?_ H.below⟩
 · cases n with
   | ofNat a=>
    obtain⟨e5,e6⟩:=dX e4;have:=acR _ _ e6;rw [zaS]at this;rw [show Lib.itoa (Int.ofNat a)=Lib.decDigits a by unfold Lib.itoa;rw [if_neg (by have:=Int.natCast_nonneg a;exact Int.not_lt.2 this)];rfl];exact this
   | negSucc a=>
    obtain⟨e5,e6⟩:=dX e4;rw [dG]at e6;have:=acR _ _ e6;rw [zaS]at this;rw [show Lib.itoa (Int.negSucc a)=45::Lib.decDigits (a+1) by unfold Lib.itoa;rw [if_pos (by omega)];rfl];exact this
 · cases n with
   | ofNat a=>have:=Int.natCast_nonneg a;show-9223372036854775808≤(a:Int);omega
   | negSucc a=>have:=zaa (dX e4).1;omega
 · cases n with
   | ofNat a=>have:=zaa (dX e4).1;show(a:Int)≤9223372036854775807;omega
   | negSucc a=>omega
theorem axy {P w0 f}(kq:Can P f)
 (hI:∀(s:ByteArray) (n:Int) (w:World),s.size≤18→Lib.atoi s.data.toList=some n→Calls P f #[.string s] w fun e w'=>e= .returned (.tuple #[.int .i64 n,.nilIface])∧Below w.heap.size w w'):
 ∀(args:ZZE) (h:AH) (k:CR→AH→Bool),alV args h k=true→lz P w0 f args h k:=by
 refine Mc kq fun args h k φ args' w e hl H=>?_;obtain⟨L,hL⟩:∃L,args'.toList=L:=⟨_,rfl⟩;rw [hL]at hl;obtain⟨v,rfl,e1⟩:=iU e;obtain⟨s,rfl,e2⟩:=ql e1;obtain⟨e3,e4⟩:=dX e2
 have oV:args'= #[.string s]:=by
  cases hl with | cons _ v' _ l' h1 h2=>cases h2;apply za8;rw [hL,h1.od]
 subst oV;split at e4
 · rename_i n hn;rw [tA]at e4;exact⟨_,_,.ko ⟨[.int .i64 n,.nilIface]⟩ #[.int .i64 n,.nilIface] (.cons _ _ _ _ (.int _ _) (.cons _ _ _ _ .Hv .nil)),e4,hI s n w (by have:=zaa e3;simpa using this) hn⟩
 · cases e4
theorem acS:∀(l m:List UInt8){k:List UInt8→Bool},AB l m k=true→k (l++m)=true
 | [],m,k,h=>h
 | x::l,m,k,h=>acS l m (show AB l m (fun l'=>k (x::l'))=true from h)
theorem alX (sep:List UInt8):∀(l:ZZE){k:List UInt8→Bool},TT sep l k=true→∃xs:List ByteArray,l=xs.map .string∧k (Lib.join (xs.map (·.data.toList)) sep)=true
 | [],k,h=>⟨[],rfl,h⟩
 | [v],k,h=>by
  obtain⟨s,rfl,e⟩:=ql (show mX v _=true from h);exact⟨[s],rfl,by rw [zaW,List.map_nil,Lib.join_one];exact e⟩
 | v::y::l,k,h=>by
  obtain⟨s,rfl,e⟩:=ql (show mX v (fun s=>TT sep (y::l) fun m=>AB sep m fun m=>AB s.data.toList m k)=true from h);obtain⟨xs,h1,h2⟩:=alX sep (y::l) e;have h3:=acS _ _ (acS _ _ h2);refine⟨s::xs,by rw [h1];rfl,?_⟩;rw [zaW];cases xs with
  | nil=>cases h1
  | cons x r=>
   rw [zaW,Lib.join_cons]at h3;rw [zaW,Lib.join_cons];simpa [Lib.joinTail]using h3
theorem axz {P w0 f}(kq:Can P f)
 (hJ:∀(bk o c:Nat) (xs:List ByteArray) (sep:ByteArray) (w:World),(∀(j:Nat) x,xs[j]? =some x→w.cell? ⟨bk,o+j,none⟩=some (.string x))→bk<w.heap.size→xs.length≤140737488355328→xs.length≤c→(Lib.join (xs.map (·.data.toList)) sep.data.toList).length≤140737488355328→
  Calls P f #[.slice (some ⟨bk,o,none⟩) xs.length c,.string sep] w fun e w'=>e= .returned (.string ⟨(Lib.join (xs.map (·.data.toList)) sep.data.toList).toArray⟩)∧Below w.heap.size w w'):
 ∀(args:ZZE) (h:AH) (k:CR→AH→Bool),alW args h k=true→lz P w0 f args h k:=by
 refine Mc kq fun args h k φ args' w e hl H=>?_;obtain⟨L,hL⟩:∃L,args'.toList=L:=⟨_,rfl⟩;rw [hL]at hl;obtain⟨v,s,rfl,e1⟩:=lx e;obtain⟨sep,rfl,e2⟩:=ql e1;rcases wZ e2 with⟨l0,c0,_,e3⟩ | ⟨a,len,cap,rfl,e3⟩
 · cases e3
 obtain⟨e4,e5⟩:=dX e3;simp only [zae]at e4;have hn1:=zaa e4.1;have HG:=zaa e4.2;obtain⟨lo,hi,ty,tu,cc,l,g1,g2,g3,g4,g5,g6⟩:=B7 e5;obtain⟨xs,rfl,e6⟩:=alX _ _ g6;obtain⟨e7,e8⟩:=dX e6;have e7:=zaa e7;cases hl with
 | cons _ v1 _ l1 h1 h2=>
  cases h2 with
  | cons _ v2 _ l2 h3 h4=>
   cases h4;obtain⟨a',c',rfl,hs,lO⟩:=h1.vD;obtain rfl:=h3.od
   have eU:AtR φ a a'∧len≤c':=by
    rcases lO with⟨_,h2,h3,h4⟩ | ⟨_,_,_,h3,h4⟩
    · exact⟨h4 (by omega),by omega⟩
    · exact⟨(h4 (by omega)).1,h3⟩
   rw [List.length_map]at g4;obtain⟨b,d,arr,fr,p1,p2,p3,p4,p5,p6,p7,p8⟩:=H.at hs eU.1 g1;have ha':a'=⟨b,a'.off,none⟩:=by cases a';simp_all
   have oV:args'= #[.slice (some ⟨b,a'.off,none⟩) xs.length c',.string sep]:=by apply za8;rw [hL,g4,←ha']
   subst oV;refine⟨_,_,.str _,e8,hJ b a'.off c' xs sep w (fun j x hj=>?_) (Array.getElem?_eq_some_iff.1 p5).1 (by omega) (by omega) (by omega)⟩;have KX:=(List.getElem?_eq_some_iff.1 hj).1;obtain⟨v',q1,q2⟩:=H.cell hs eU.1 g1 (j:=j) (by omega) (by omega) (g5 j (.string x) (by simp [hj]));rw [si a' p4,p2]at q1;rw [q1,q2.od]
end
end Go.Ve
namespace Go.Ve.T
open Go.Ve Go.Proofs Go.RowKit
noncomputable section
set_option maxRecDepth 20000
theorem AH.ayX {h:AH}{b o n:Nat}{l:ZZE}(hn:l.length=n)(H:h.can b o n):(h.wr b o l).bH b o l:=fun i v hv=>by
 have hi:i<l.length:=(List.getElem?_eq_some_iff.1 hv).1;subst hn;rw [AH.CE H (zad _),if_pos ⟨rfl,by omega,by omega⟩,zbF];exact hv
def FT:List (ZZE):=[[(bs []),vi 0,vi 0,vi 0,vi 0,vi 0,vi 0,.bool false,.bool false],
[(bs [105,110,116]),vi 1,vi 4,vi 0,vi 1,vi 0,vi 0,.bool false,.bool false],
[(bs [98,111,111,108]),vi 1,vi 5,vi 0,vi 1,vi 0,vi 0,.bool false,.bool false],
[(bs [118,111,105,100]),vi 1,vi 0,vi 0,vi 1,vi 0,vi 0,.bool false,.bool false],
[(bs [109,111,118,101]),vi 1,vi 1,vi 0,vi 1,vi 2,vi 0,.bool false,.bool false],
[(bs [115,101,108,102]),vi 1,vi 0,vi 0,vi 1,vi 0,vi 0,.bool false,.bool false],
[(bs [97,100,100]),vi 1,vi 1,vi 1,vi 1,vi 2,vi 3,.bool true,.bool false],
[(bs [115,117,98]),vi 1,vi 1,vi 1,vi 1,vi 2,vi 3,.bool true,.bool false],
[(bs [109,117,108]),vi 1,vi 1,vi 1,vi 1,vi 2,vi 3,.bool true,.bool false],
[(bs [100,105,118]),vi 1,vi 1,vi 1,vi 1,vi 2,vi 3,.bool true,.bool false],
[(bs [109,111,100]),vi 1,vi 1,vi 1,vi 1,vi 2,vi 3,.bool true,.bool false],
[(bs [110,101,103]),vi 1,vi 1,vi 0,vi 1,vi 2,vi 0,.bool false,.bool false],
[(bs [101,113]),vi 1,vi 1,vi 1,vi 1,vi 2,vi 3,.bool false,.bool false],
[(bs [108,101,115,115]),vi 1,vi 1,vi 1,vi 1,vi 2,vi 3,.bool false,.bool false],
[(bs [109,111,115,116]),vi 1,vi 1,vi 1,vi 1,vi 2,vi 3,.bool false,.bool false],
[(bs [110,111,116]),vi 1,vi 1,vi 0,vi 1,vi 2,vi 0,.bool false,.bool false],
[(bs [104,97,115]),vi 1,vi 1,vi 0,vi 1,vi 2,vi 0,.bool false,.bool false],
[(bs [103,101,116]),vi 1,vi 2,vi 7,vi 1,vi 2,vi 0,.bool true,.bool false],
[(bs [115,101,116]),vi 7,vi 1,vi 0,vi 0,vi 2,vi 0,.bool false,.bool false],
[(bs [97,114,103]),vi 6,vi 1,vi 0,vi 0,vi 2,vi 0,.bool false,.bool false],
[(bs [99,97,108,108]),vi 2,vi 2,vi 8,vi 1,vi 2,vi 0,.bool true,.bool false],
[(bs [110,101,119]),vi 1,vi 10,vi 5,vi 1,vi 0,vi 0,.bool true,.bool false],
[(bs [109,97,107,101]),vi 1,vi 9,vi 0,vi 0,vi 1,vi 0,.bool true,.bool false],
[(bs [105,110,118]),vi 2,vi 0,vi 0,vi 0,vi 1,vi 0,.bool true,.bool false],
[(bs [106,117,109,112]),vi 3,vi 0,vi 0,vi 0,vi 0,vi 0,.bool false,.bool true],
[(bs [102,97,108,115,101]),vi 1,vi 3,vi 0,vi 0,vi 1,vi 0,.bool false,.bool false],
[(bs [114,97,105,115,101]),vi 11,vi 0,vi 0,vi 0,vi 0,vi 0,.bool true,.bool true],
[(bs [102,97,105,108]),vi 0,vi 0,vi 0,vi 0,vi 0,vi 0,.bool true,.bool true],
[(bs [114,101,116]),vi 2,vi 0,vi 0,vi 0,vi 1,vi 0,.bool false,.bool true],
[(bs [112,117,116]),vi 1,vi 0,vi 0,vi 0,vi 1,vi 0,.bool false,.bool false],
[(bs [101,110,116,101,114]),vi 1,vi 0,vi 0,vi 0,vi 1,vi 0,.bool true,.bool false],
[(bs [108,101,97,118,101]),vi 0,vi 0,vi 0,vi 0,vi 0,vi 0,.bool false,.bool false],
[(bs [97,103,97,105,110]),vi 1,vi 3,vi 0,vi 0,vi 1,vi 0,.bool true,.bool false],
[(bs [108,111,97,100]),vi 1,vi 12,vi 0,vi 1,vi 0,vi 0,.bool false,.bool false],
[(bs [115,116,111,114,101]),vi 12,vi 1,vi 0,vi 0,vi 2,vi 0,.bool false,.bool false]]
def isOp (op:Int):Bool:=decide (1≤op∧op≤34)
def yQ (op:Int):ZZE:=if isOp op then FT.getD op.toNat []else FT.getD 0 []
theorem MH {op}(h:isOp op=true):op=1∨op=2∨op=3∨op=4∨op=5∨op=6∨op=7∨op=8∨op=9∨op=10∨op=11∨op=12∨op=13∨op=14∨op=15∨op=16∨op=17∨op=18∨op=19∨op=20∨op=21∨op=22∨op=23∨op=24∨op=25∨op=26∨op=27∨op=28∨op=29∨op=30∨op=31∨op=32∨op=33∨op=34:=by
 unfold isOp at h;rw [zap]at h;omega
def adW:NT lv:=NT.e.set 120 (some (aF 120))
theorem ayY:∀f af,adW.get f=some af→c7 PP f=some af:=fun f af h=>by
 unfold adW at h;rw [NT.fR]at h;split at h
 · have:=zaL h;subst this;subst f;exact ayZ
 · cases h
theorem ay0:ev adW [] 100000 (.call 120 [] ⟨0,.e⟩ (isC (.agg ⟨FT.flatten⟩)))=true:=by kernel_rfl
section
variable {w0:World}{h:AH}{Q:CR→AH→Prop}
open Classical in
theorem amL (H:∀h',eK h h'→(h.Ok→h'.Ok)→Q (.ret (.agg ⟨FT.flatten⟩)) h'):WF PP w0 ahX [] h Q:=by
 have hC:∀w,Can PP 120∧Calls PP 120 #[] w fun E w'=>E= .returned (.agg ⟨FT.flatten⟩)∧Below w.heap.size w w':=fun w=>axw cq ayY (sums:=[]) (fun p hp=>by cases hp) ay0 .nil
 have hp:Fw (.agg ⟨FT.flatten⟩) (.agg ⟨FT.flatten⟩)=true:=by kernel_rfl
 refine⟨(hC w0).1,fun φ args' w hl hh=>?_⟩
 have:args'= #[]:=by
  cases kS:args'.toList with
  | nil=>simpa using kS
  | cons _ _=>rw [kS]at hl;cases hl
 subst this;exact Calls.mono (hC w).2 fun E w' hE=>⟨_,h,φ,zac (H h (.refl h) id),Ext.refl _ _,zad _,hh.behind hE.2,_,hE.1,(Me hp φ).1⟩
theorem amM {sz}:∀{l:List (ZZE)}{i:Nat}{x:ZZE},(∀x∈l,x.length=sz)→l[i]? =some x→(l.flatten.drop (i*sz)).take sz=x
 | [],i,x,_,e=>by simp at e
 | y::l,0,x,hs,e=>by
  simp at e;subst e;have:=hs y zai;rw [Nat.zero_mul,zbB,zaN,List.take_append_of_le_length (by omega),←this,List.take_length]
 | y::l,i+1,x,hs,e=>by
  have h1:=hs y zai;rw [zaN,show(i+1)*sz=y.length+i*sz by rw [h1,zaR];omega,List.drop_append,List.drop_of_length_le (by omega),zaU,zbF];exact amM (fun x hx=>hs x (zaj _ hx)) (by simpa using e)
theorem ay1 {h h'}(K:eK h h'){b o n:Nat}(hb:b<h.nx):h'.can b o n↔h.can b o n:=by unfold AH.can;rw [K.get b hb]
theorem amN {i}(hi:i<35):∃x,FT[i]? =some x∧FT.getD i []=x∧x.length=9∧fi x=true:=by
 have hl:FT.length=35:=by kernel_rfl
 have h1:FT.all (fun x=>decide (x.length=9)&&fi x)=true:=by kernel_rfl
 have hx:FT[i]? =some FT[i]:=zab (by omega);have h2:=List.all_eq_true.1 h1 FT[i] (zbl (by omega));rw [zae,zap]at h2;exact⟨_,hx,by rw [List.getD,hx];rfl,h2.1,h2.2⟩
theorem amO (op:Int)(H:∀h',eK h h'→(h.Ok→h'.Ok)→Q (.ret (.tuple ⟨[.agg ⟨yQ op⟩,.bool (isOp op)]⟩)) h'):WF PP w0 x7 [vi op] h Q:=by
 refine as9 _ ?_
 unfold ahY
 refine(Ml rfl).2 ?_
 refine fj.2 ?_
 by_cases hi:isOp op=true
 · have fx:1≤op∧op≤34:=by unfold isOp at hi;rwa [zap]at hi
   have e1:decide (op<1)=false:=zag (by omega)
   have e2:decide (34<op)=false:=zag (by omega)
   simp only [e1,e2,Q0,pr,ld,pn,tI,uZ,u9,tJ,tK,vd,ve,ada,adb,ade,adf,adg,ck,Ud,aW,zam,zak,aQ,ak,adr,sn (show 0<2 by decide),sn (show 0<3 by decide),sn (show 0<4 by decide),sn (show 0<7 by decide),sn (show 0<9 by decide),ads,tM,adt,AH.ado,AH.adn,AH.T5,AH.acY,AH.Up,AH.adp,AH.rl,if_true,if_false,zav,Nat.add_zero,Nat.reduceAdd,sr,su,sv,sw,adB,adC,adD,adE,zaP,zaQ,zaw,za6,zaf,Option.map_some,gr,gb,fj,o8,kT,sk,dZ,ac5,ac6,zaK,za7,zas,zaZ,Nat.left_eq_add,Nat.add_eq_zero_iff,Nat.add_eq_left,Nat.add_eq_right,Nat.reduceEqDiff,Nat.one_ne_zero,and_false,false_and,true_and,and_true,zaE,zbu,Nat.reduceLeDiff,zad,zbd,Nat.lt_irrefl,reduceCtorEq,adF,AW,adu,adv,adw,adx,ady,adz,adA,zbo,Bool.and_true,zbE,tN,Uq,adJ,qv,qu,List.take_zero,List.take_succ_cons,zbB,List.drop_succ_cons,List.drop_nil,List.take_nil,and_self,↓reduceIte,zaA,zbr,za2,zaU,zaS,Ml,Ue,Nat.sub_zero,Nat.reduceSub,Nat.reduceLT,AH.adq,zaz]
   unfold ahW
   refine amL fun h' K ok=>?_
   obtain⟨k,hk⟩:∃k:Nat,op=k:=⟨op.toNat,by omega⟩
   subst hk
   obtain⟨x,x1,x2,x3,x4⟩:=amN (i:=k) (by omega)
   have vR:yQ (k:Int)=x:=by unfold yQ;rw [hi,if_pos rfl];exact x2
   refine(axW (by omega) (by have:FT.flatten.length=315:=(by kernel_rfl);omega)).2 ?_
   rw [amM (fun y hy=>?_) x1]
   rotate_left
   · have h1:FT.all (fun x=>decide (x.length=9))=true:=by kernel_rfl
     exact zao (List.all_eq_true.1 h1 y hy)
   have hc:h'.can h.nx 0 9:=(ay1 K (zax _)).2 (by rw [AH.Up,if_pos rfl];exact zad 9)
   refine(Uh hc (show(cellsOf (.agg ⟨x⟩)).length=9 from x3) x4).2 ?_
   refine(Ug (l:=x) (AH.ayX x3 hc) x3 (by decide)).2 ?_
   simp only [vR,hi]at H
   exact H _ (((eK.new h _ _).trans K).wr (zad _) _ _) (fun o=>AH.AS (ok (AH.AR o _ _)) _ _ _)
 · have fx:¬(1≤op∧op≤34):=by unfold isOp at hi;rwa [zap]at hi
   have hf:yQ op=[(bs []),vi 0,vi 0,vi 0,vi 0,vi 0,vi 0,.bool false,.bool false]:=by unfold yQ;rw [if_neg hi];rfl
   have hb:isOp op=false:=by simpa using hi
   by_cases e1:op<1
   · simp only [zac e1,Q0,pr,ld,pn,tI,uZ,u9,tJ,tK,vd,ve,ada,adb,ade,adf,adg,ck,Ud,aW,zam,zak,aQ,ak,adr,sn (show 0<2 by decide),sn (show 0<3 by decide),sn (show 0<4 by decide),sn (show 0<7 by decide),sn (show 0<9 by decide),ads,tM,adt,AH.ado,AH.adn,AH.T5,AH.acY,AH.Up,AH.adp,AH.rl,if_true,if_false,zav,Nat.add_zero,Nat.reduceAdd,sr,su,sv,sw,adB,adC,adD,adE,zaP,zaQ,zaw,za6,zaf,Option.map_some,gr,gb,fj,o8,kT,sk,dZ,ac5,ac6,zaK,za7,zas,zaZ,Nat.left_eq_add,Nat.add_eq_zero_iff,Nat.add_eq_left,Nat.add_eq_right,Nat.reduceEqDiff,Nat.one_ne_zero,and_false,false_and,true_and,and_true,zaE,zbu,Nat.reduceLeDiff,zad,zbd,Nat.lt_irrefl,reduceCtorEq,adF,AW,adu,adv,adw,adx,ady,adz,adA,zbo,Bool.and_true,zbE,tN,Uq,adJ,qv,qu,List.take_zero,List.take_succ_cons,zbB,List.drop_succ_cons,List.drop_nil,List.take_nil,and_self,↓reduceIte,zaA,zbr,za2,zaU,zaS,Ml,Ue,Nat.sub_zero,Nat.reduceSub,Nat.reduceLT,AH.adq,zaz,CJ (show qv [(bs []),(vi 0),(vi 0),(vi 0),(vi 0),(vi 0),(vi 0),(.bool false),(.bool false)] [] []=some [(bs []),(vi 0),(vi 0),(vi 0),(vi 0),(vi 0),(vi 0),(.bool false),(.bool false)]from rfl)]
     simp only [hf,hb]at H
     exact H _ ((eK.new h _ _).wr (zad _) _ _) (fun o=>AH.AS (AH.AR o _ _) _ _ _)
   · have e2:34<op:=by omega
     simp only [zag e1,zac e2,Q0,pr,ld,pn,tI,uZ,u9,tJ,tK,vd,ve,ada,adb,ade,adf,adg,ck,Ud,aW,zam,zak,aQ,ak,adr,sn (show 0<2 by decide),sn (show 0<3 by decide),sn (show 0<4 by decide),sn (show 0<7 by decide),sn (show 0<9 by decide),ads,tM,adt,AH.ado,AH.adn,AH.T5,AH.acY,AH.Up,AH.adp,AH.rl,if_true,if_false,zav,Nat.add_zero,Nat.reduceAdd,sr,su,sv,sw,adB,adC,adD,adE,zaP,zaQ,zaw,za6,zaf,Option.map_some,gr,gb,fj,o8,kT,sk,dZ,ac5,ac6,zaK,za7,zas,zaZ,Nat.left_eq_add,Nat.add_eq_zero_iff,Nat.add_eq_left,Nat.add_eq_right,Nat.reduceEqDiff,Nat.one_ne_zero,and_false,false_and,true_and,and_true,zaE,zbu,Nat.reduceLeDiff,zad,zbd,Nat.lt_irrefl,reduceCtorEq,adF,AW,adu,adv,adw,adx,ady,adz,adA,zbo,Bool.and_true,zbE,tN,Uq,adJ,qv,qu,List.take_zero,List.take_succ_cons,zbB,List.drop_succ_cons,List.drop_nil,List.take_nil,and_self,↓reduceIte,zaA,zbr,za2,zaU,zaS,Ml,Ue,Nat.sub_zero,Nat.reduceSub,Nat.reduceLT,AH.adq,zaz,CJ (show qv [(bs []),(vi 0),(vi 0),(vi 0),(vi 0),(vi 0),(vi 0),(.bool false),(.bool false)] [] []=some [(bs []),(vi 0),(vi 0),(vi 0),(vi 0),(vi 0),(vi 0),(.bool false),(.bool false)]from rfl)]
     simp only [hf,hb]at H
     exact H _ ((eK.new h _ _).wr (zad _) _ _) (fun o=>AH.AS (AH.AR o _ _) _ _ _)
end
end
end Go.Ve.T
namespace Go.Ve.T
open Go.Ve Go.Proofs
noncomputable section
set_option maxRecDepth 20000
def aHq:List pq:=[
⟨bytesOf [],⟨0,0,0⟩,0,⟨0,0⟩,false,false⟩,
⟨bytesOf [105,110,116],⟨1,4,0⟩,1,⟨0,0⟩,false,false⟩,
⟨bytesOf [98,111,111,108],⟨1,5,0⟩,1,⟨0,0⟩,false,false⟩,
⟨bytesOf [118,111,105,100],⟨1,0,0⟩,1,⟨0,0⟩,false,false⟩,
⟨bytesOf [109,111,118,101],⟨1,1,0⟩,1,⟨2,0⟩,false,false⟩,
⟨bytesOf [115,101,108,102],⟨1,0,0⟩,1,⟨0,0⟩,false,false⟩,
⟨bytesOf [97,100,100],⟨1,1,1⟩,1,⟨2,3⟩,true,false⟩,
⟨bytesOf [115,117,98],⟨1,1,1⟩,1,⟨2,3⟩,true,false⟩,
⟨bytesOf [109,117,108],⟨1,1,1⟩,1,⟨2,3⟩,true,false⟩,
⟨bytesOf [100,105,118],⟨1,1,1⟩,1,⟨2,3⟩,true,false⟩,
⟨bytesOf [109,111,100],⟨1,1,1⟩,1,⟨2,3⟩,true,false⟩,
⟨bytesOf [110,101,103],⟨1,1,0⟩,1,⟨2,0⟩,false,false⟩,
⟨bytesOf [101,113],⟨1,1,1⟩,1,⟨2,3⟩,false,false⟩,
⟨bytesOf [108,101,115,115],⟨1,1,1⟩,1,⟨2,3⟩,false,false⟩,
⟨bytesOf [109,111,115,116],⟨1,1,1⟩,1,⟨2,3⟩,false,false⟩,
⟨bytesOf [110,111,116],⟨1,1,0⟩,1,⟨2,0⟩,false,false⟩,
⟨bytesOf [104,97,115],⟨1,1,0⟩,1,⟨2,0⟩,false,false⟩,
⟨bytesOf [103,101,116],⟨1,2,7⟩,1,⟨2,0⟩,true,false⟩,
⟨bytesOf [115,101,116],⟨7,1,0⟩,0,⟨2,0⟩,false,false⟩,
⟨bytesOf [97,114,103],⟨6,1,0⟩,0,⟨2,0⟩,false,false⟩,
⟨bytesOf [99,97,108,108],⟨2,2,8⟩,1,⟨2,0⟩,true,false⟩,
⟨bytesOf [110,101,119],⟨1,10,5⟩,1,⟨0,0⟩,true,false⟩,
⟨bytesOf [109,97,107,101],⟨1,9,0⟩,0,⟨1,0⟩,true,false⟩,
⟨bytesOf [105,110,118],⟨2,0,0⟩,0,⟨1,0⟩,true,false⟩,
⟨bytesOf [106,117,109,112],⟨3,0,0⟩,0,⟨0,0⟩,false,true⟩,
⟨bytesOf [102,97,108,115,101],⟨1,3,0⟩,0,⟨1,0⟩,false,false⟩,
⟨bytesOf [114,97,105,115,101],⟨11,0,0⟩,0,⟨0,0⟩,true,true⟩,
⟨bytesOf [102,97,105,108],⟨0,0,0⟩,0,⟨0,0⟩,true,true⟩,
⟨bytesOf [114,101,116],⟨2,0,0⟩,0,⟨1,0⟩,false,true⟩,
⟨bytesOf [112,117,116],⟨1,0,0⟩,0,⟨1,0⟩,false,false⟩,
⟨bytesOf [101,110,116,101,114],⟨1,0,0⟩,0,⟨1,0⟩,true,false⟩,
⟨bytesOf [108,101,97,118,101],⟨0,0,0⟩,0,⟨0,0⟩,false,false⟩,
⟨bytesOf [97,103,97,105,110],⟨1,3,0⟩,0,⟨1,0⟩,true,false⟩,
⟨bytesOf [108,111,97,100],⟨1,12,0⟩,1,⟨0,0⟩,false,false⟩,
⟨bytesOf [115,116,111,114,101],⟨12,1,0⟩,0,⟨2,0⟩,false,false⟩]
def pq.cells (x:pq):ZZE:=[.string x.ml,vi x.cL.e0,vi x.cL.e1,vi x.cL.e2,vi x.jx,vi x.dF.e0,vi x.dF.e1,.bool x.jV,.bool x.jP]
def Xe:pq:=⟨bytesOf [],⟨0,0,0⟩,0,⟨0,0⟩,false,false⟩
def ez (op:Int):pq:=bif isOp op then aHq.getD op.toNat Xe else Xe
theorem aHr (op:Int):(ez op).cells=yQ op:=by
 unfold ez yQ;cases hi:isOp op with
 | false=>rfl
 | true=>rcases MH hi with rfl | rfl | rfl | rfl | rfl | rfl | rfl | rfl | rfl | rfl | rfl | rfl | rfl | rfl | rfl | rfl | rfl | rfl | rfl | rfl | rfl | rfl | rfl | rfl | rfl | rfl | rfl | rfl | rfl | rfl | rfl | rfl | rfl | rfl<;>rfl
def Db (x0:Int):Option (pq×Bool):=some (ez x0,isOp x0)
theorem Gh {w0 g h Q r}(x0:Int)(sg:Sub g h)(ok:h.Ok)(M:Db x0=some r)
 (H:∀(g' h':AH),Sep ⟨g,h,[]⟩ g' h' []→Q (.ret (.tuple ⟨[(.agg ⟨[.string r.1.ml,vi r.1.cL.e0,vi r.1.cL.e1,vi r.1.cL.e2,vi r.1.jx,vi r.1.dF.e0,vi r.1.dF.e1,.bool r.1.jV,.bool r.1.jP]⟩),.bool r.2]⟩)) h'):WF PP w0 x7 [vi x0] h Q:=by
 cases M;refine amO x0 fun h' K pS=>?_;have:=H g h' ((Sep.start sg ok).bt K (pS ok));rw [←aHr];exact this
end
end Go.Ve.T
namespace Go.Ve.T
open Go.Ve Go.Proofs
noncomputable section
set_option maxRecDepth 10000
def xv (w0:World) (g:AH) (fv:Z) (f:Int→Option Bool):Prop:=iA fv=true∧∀(a0:Int) (r:Bool) (E K:ZZF) (g2 h2:AH),Sub g g2→Sub g2 h2→h2.Ok→f a0=some r→(∀(g' h':AH),Sep ⟨g2,h2,[]⟩ g' h' []→K (.bool r) h')→dy PP w0 [fv,vi a0] E K h2
theorem xv.mono {w0 g g' fv f}(H:xv w0 g fv f)(S:Sub g g'):xv w0 g' fv f:=⟨H.1,fun a0 r E K g2 h2 s1=>H.2 a0 r E K g2 h2 (Sub.trans S s1)⟩
def xw (w0:World) (g:AH) (fv:Z) (f:al→Option Bool):Prop:=iA fv=true∧∀(a0:al) (r:Bool) (E K:ZZF) (g2 h2:AH),Sub g g2→Sub g2 h2→h2.Ok→f a0=some r→(∀(g' h':AH),Sep ⟨g2,h2,[]⟩ g' h' []→K (.bool r) h')→dy PP w0 [fv,(.agg ⟨[vi a0.dk,vi a0.dO,vi a0.bG]⟩)] E K h2
theorem xw.mono {w0 g g' fv f}(H:xw w0 g fv f)(S:Sub g g'):xw w0 g' fv f:=⟨H.1,fun a0 r E K g2 h2 s1=>H.2 a0 r E K g2 h2 (Sub.trans S s1)⟩
def kb (x0:Int) (x1:Int) (x2:Int):Option Bool:=
 bif (decide (x1≤x0))then(
 some (decide (x0≤x2)))else(
 some false)
abbrev aBj (c:Cx) (R:ZZF) (r:Bool):Prop:=∀(g' h':AH),Sep c g' h' []→R (.bool r) h'
theorem mJ {w0 g h Q r x0 x1 x2}(M:kb x0 x1 x2=some r)(sg:Sub g h)(ok:h.Ok)  (H:aBj ⟨g,h,[]⟩ (fun v=>Q (.ret v)) r):WF PP w0 j5 [vi x0,vi x1,vi x2] h Q:=by
 refine ahG _ _ _ ?_;have S:=Sep.start sg ok;unfold Xy;unfold kb at M;refine o8.2 ?_;cases hc:(decide (x1≤x0))
 · have M:=aX hc M;repeat refine ax (by decide) ?_;refine aW.2 ?_;cases M;exact H _ _  S.bO
 · have M:=aV hc M;refine au rfl (au rfl (au rfl (o8.2 (aW.2 ?_))));cases M;exact H _ _  S.bO
def Da (x0:ah):Option ox:=
 some (ox.mk x0.fA x0.fB x0.fC)
abbrev aBk (c:Cx) (R:ZZF) (r:ox):Prop:=∀(g' h':AH),Sep c g' h' []→R (.agg ⟨[vi r.e0,vi r.e1,vi r.e2]⟩) h'
theorem NF {w0 g h Q r x0}(M:Da x0=some r)(sg:Sub g h)(ok:h.Ok)  (H:aBk ⟨g,h,[]⟩ (fun v=>Q (.ret v)) r):WF PP w0 Et [(.agg ⟨(ZZC x0)⟩)] h Q:=by
 refine ata _ ?_;have S:=Sep.start sg ok;unfold ahZ;unfold Da at M;refine S.box (ZZC x0) rfl (ag rfl (ag rfl (ag rfl (ag rfl rfl)))) (fun jN h S=>?_);refine S.alloc (l:=[vi 0,vi 0,vi 0]) (ag rfl (ag rfl (ag rfl rfl))) (fun sE h S=>?_);refine aQ.2 (S.aP 1 rfl rfl (aQ.2 (S.aP 1 rfl rfl (aQ.2 (S.aP 1 rfl rfl (Jb [vi x0.fA,vi x0.fB,vi x0.fC] (by simp only [tN,sr,su,sv,sw,  zaE,zbu,Nat.reduceAdd,zav,zaK,zbo]) (by simp only [zaA,zbr,sr,su,sv,sw,  za2,zaU,zaS]) (S.cV [vi x0.fA,vi x0.fB,vi x0.fC] [vi x0.fA,vi x0.fB,vi x0.fC] rfl rfl (ag rfl (ag rfl (ag rfl rfl))) (zaa rfl) rfl (fun h S=>?_))))))));refine S.eA [vi x0.fA,vi x0.fB,vi x0.fC] 0 rfl rfl rfl (by decide) ?_;cases M;exact H _ _  S.bO
def Vo (N:Nat) (ch:Int) (eC:ZZD) (nT:ah) (gz:(ZZD)→Int→Option ((ZZD))):Option ((ZZD)):=
 gz eC (bN .i64 (ch+1))
def aeL (N:Nat) (v11:ox) (ch:Int) (v1:ah) (dR:ZZD) (gz:(ZZD)→Int→Option ((ZZD))):Option ((ZZD)):=
(ix [v11.e0,v11.e1,v11.e2] ch).bind fun jw=>
 bif (decide (jw=3))then(
(Da v1).bind fun eR=>
(ix [eR.e0,eR.e1,eR.e2] ch).bind fun fD=>
 gu (decide (dR.length+[fD].length≤1048576)) (
 Vo N ch (dR++[fD]) v1 gz))else(
 Vo N ch dR v1 gz)
def aeM (N:Nat) (y9:ZZD)  :Option ((ZZD)):=
 some y9
def aeN (N:Nat) (v11:ox) (v1:ah) (dR:ZZD) (ch:Int) (gz:(ZZD)→Int→Option ((ZZD))):Option ((ZZD)):=
 bif (decide (ch<3))then(
 aeL N v11 ch v1 dR gz)else(
 aeM N dR)
def Vp (N:Nat) (v11:ox) (v1:ah)  :Nat→(ZZD)→Int→Option ((ZZD)) | 0,_,_=>none | n+1,dR,ch=>aeN N v11 v1 dR ch  (fun ar cd=>Vp N v11 v1 n ar cd)
def Gf (N:Nat) (x0:ah):Option ((ZZD)):=
(Db x0.aJ).bind fun cv=>
 Vp N cv.1.cL x0 N ([]:ZZD) 0
abbrev Jd (c:Cx) (R:ZZF) (r:(ZZD)):Prop:=∀(g' h':AH) (w1:Z),Sep c g' h' []→aa (rI .i64) 1 g' w1 r→R w1 h'
theorem aoR {w0 c g h E R r N ch eC nT NG NH NI gL gz mK}(M:Vo N ch eC nT gz=some r)(S:Sep c g h [.sl 3 1 NG NH,.bx NI (ZZC nT)])(aeO:aw ((rI .i64) g) NH eC)(pc:Sub mK g)(pe:∀{ar:ZZD}{ft:Z}{fu:List (ZZE)}{cd:Int}{g2 h2:AH},gz ar cd=some r→Sub mK g2→Sep c g2 h2 [.bx NI (ZZC nT),.sl 3 1 ft fu]→aw ((rI .i64) g2) fu ar→gL ft (vi cd) h2)(H:Jd c R r):Rb w0 E R (vi ch) gL NG h:=by
 unfold Rb;unfold Vo at M;refine gE.2 ?_;have S:=S.f1;exact pe M pc S aeO
theorem aBl {w0 c g h E R r N v11 ch v1 dR av ln kz gL gz mK}(M:aeL N v11 ch v1 dR gz=some r)(S:Sep c g h [.bx av (ZZC v1),.sl 3 1 ln kz])(lq:aw ((rI .i64) g) kz dR)(pc:Sub mK g)(pe:∀{ar:ZZD}{ft:Z}{fu:List (ZZE)}{cd:Int}{g2 h2:AH},gz ar cd=some r→Sub mK g2→Sep c g2 h2 [.bx av (ZZC v1),.sl 3 1 ft fu]→aw ((rI .i64) g2) fu ar→gL ft (vi cd) h2)(H:Jd c R r):YH w0 E R (.agg ⟨[vi v11.e0,vi v11.e1,vi v11.e2]⟩) (vi ch) (ak av 0) ln gL h:=by
 unfold YH;unfold aeL at M;obtain⟨jw,qB,M⟩:=bind_some M;refine Gd [v11.e0,v11.e1,v11.e2] (fun q=>(vi q)) rfl qB (gr.2 (bR (fun hc=>?_) (fun hc=>?_)))
 · have M:=aV hc M;refine S.eA (ZZC v1) 0 rfl rfl rfl (by decide) ?_;obtain⟨eR,mL,M⟩:=bind_some M;refine NF mL S.sub S.ok (fun _ h  S1  =>?_);have S:=S.dz S1;obtain⟨fD,qC,M⟩:=bind_some M;refine Gd [eR.e0,eR.e1,eR.e2] (fun q=>(vi q)) rfl qC (S.tp [[vi fD]] (rn (m:=[vi fD]) (l2:=[vi fD]) rfl rfl (zaa rfl) rfl rfl) rfl (by decide) (vn rfl tq) (ag rfl rfl) (fun aKd h S=>?_));have aeP:aw ((rI .i64) g) [[vi fD]] [fD]:=(aw.push aw.nil (show(rI .i64) g [vi fD] fD from rfl));have S:=S.f2;obtain⟨aBm,M⟩:=nE M;refine S.app (S.rd 1 rfl) (by rw [lq.1,aeP.1];exact aBm) (by decide) rfl (nF (rY .i64) aeP) (nF (rY .i64) lq) (fun aBn h S=>?_);have NJ:aw ((rI .i64) g) (kz++[[vi fD]]) (dR++[fD]):=aw.append lq aeP;have S:=S.f2.f1.t2;exact aoR M S NJ pc pe H
 · have M:=aX hc M;have S:=S.f1;exact aoR M S lq pc pe H
theorem aBo {w0 c g h E R r N y9 Gg NK}  (M:aeM N y9=some r)(S:Sep c g h [.sl 3 1 Gg NK])(aeQ:aw ((rI .i64) g) NK y9)  (H:Jd c R r):YG w0 E R Gg h:=by
 unfold YG;unfold aeM at M;obtain⟨g,sg,S,aBp⟩:=S.fz aeQ (eD .i64);cases M;exact H _ _ Gg S.bO aBp
theorem aBq {w0 c g h E R r N v11 v1 dR ch av ln kz gL gz mK}(M:aeN N v11 v1 dR ch gz=some r)(S:Sep c g h [.bx av (ZZC v1),.sl 3 1 ln kz])(lq:aw ((rI .i64) g) kz dR)(pc:Sub mK g)(pe:∀{ar:ZZD}{ft:Z}{fu:List (ZZE)}{cd:Int}{g2 h2:AH},gz ar cd=some r→Sub mK g2→Sep c g2 h2 [.bx av (ZZC v1),.sl 3 1 ft fu]→aw ((rI .i64) g2) fu ar→gL ft (vi cd) h2)(H:Jd c R r):Re w0 E R (.agg ⟨[vi v11.e0,vi v11.e1,vi v11.e2]⟩) (ak av 0) gL ln (vi ch) h:=by
 unfold Re;unfold aeN at M;refine fj.2 (bR (fun hc=>?_) (fun hc=>?_))
 · have M:=aV hc M;exact aBl M S lq pc pe H
 · have M:=aX hc M;have S:=S.f1.t1;exact aBo M S lq H
theorem aBr {w0 c E R r N v11 v1 av}   (H:Jd c R r):∀(n:Nat){dR:ZZD}{ch:Int}{ln:Z}{kz:List (ZZE)}{g h:AH},Vp N v11 v1 n dR ch=some r→Sep c g h [.bx av (ZZC v1),.sl 3 1 ln kz]→aw ((rI .i64) g) kz dR→gg (α:=Z×Z) (fun k a=>Re w0 E R (.agg ⟨[vi v11.e0,vi v11.e1,vi v11.e2]⟩) (ak av 0) (fun b0 b1=>k (b0,b1)) a.1 a.2) n (ln,(vi ch)) h:=by
 intro n
 induction n with
 | zero=>
  intro dR ch ln kz g h M S lq ;unfold Vp at M;cases M
 | succ n ih=>
  intro dR ch ln kz g h M S lq ;exact aBq M S lq  (Sub.refl g) (fun M2 sub S2 Bk=>ih M2 S2 Bk) H
theorem aoS {w0 g h Q r N x0}(M:Gf N x0=some r)(sg:Sub g h)(ok:h.Ok)  (H:Jd ⟨g,h,[]⟩ (fun v=>Q (.ret v)) r):WF PP w0 Rf [(.agg ⟨(ZZC x0)⟩)] h Q:=by
 refine ati _ ?_;have S:=Sep.start sg ok;unfold ah6;unfold Gf at M;refine S.box (ZZC x0) rfl (ag rfl (ag rfl (ag rfl (ag rfl rfl)))) (fun jN h S=>?_);refine aQ.2 (S.aP 0 rfl rfl ?_);obtain⟨cv,nS,M⟩:=bind_some M;refine Gh x0.aJ S.sub S.ok nS (fun _ h  S1  =>?_);have S:=S.dz S1;refine(fk rfl).2 ?_;refine(fk rfl).2 ?_;refine S.alloc (l:=[(.string (⟨⟨[]⟩⟩:ByteArray)),vi 0,vi 0,vi 0,vi 0,vi 0,vi 0,.bool false,.bool false]) (ag rfl (ag rfl (ag rfl (ag rfl (ag rfl (ag rfl (ag rfl (ag rfl (ag rfl rfl))))))))) (fun MV h S=>?_);refine S.cV [.string cv.1.ml,vi cv.1.cL.e0,vi cv.1.cL.e1,vi cv.1.cL.e2,vi cv.1.jx,vi cv.1.dF.e0,vi cv.1.dF.e1,.bool cv.1.jV,.bool cv.1.jP] [.string cv.1.ml,vi cv.1.cL.e0,vi cv.1.cL.e1,vi cv.1.cL.e2,vi cv.1.jx,vi cv.1.dF.e0,vi cv.1.dF.e1,.bool cv.1.jV,.bool cv.1.jP] rfl rfl (ag rfl (ag rfl (ag rfl (ag rfl (ag rfl (ag rfl (ag rfl (ag rfl (ag rfl rfl))))))))) (zaa rfl) rfl (fun h S=>?_);refine aQ.2 (S.eA [vi cv.1.cL.e0,vi cv.1.cL.e1,vi cv.1.cL.e2] 0 rfl rfl rfl (by decide) ?_);have S:=S.B1 3 1;have S:=S.f2.t2;exact⟨N,aBr  H _ M S (aw.nil (R:=(rI .i64) g))⟩
def aeR (N:Nat) (y3:Int) (eF:Int→Option Int):Option Int:=
 eF (bN .i64 (y3+1))
def aeS (N:Nat) (x0:ZZD) (y3:Int) (x1:Int→Option Bool) (eF:Int→Option Int):Option Int:=
(ix x0 y3).bind fun gi=>
(x1 gi).bind fun eR=>
 bif eR then(
 some y3)else(
 aeR N y3 eF)
def aeT (N:Nat)   :Option Int:=
 some (-1)
def aeU (N:Nat) (v1:Int) (x0:ZZD) (x1:Int→Option Bool) (y3:Int) (eF:Int→Option Int):Option Int:=
 bif (decide (y3<v1))then(
 aeS N x0 y3 x1 eF)else(
 aeT N)
def Je (N:Nat) (v1:Int) (x0:ZZD) (x1:Int→Option Bool)  :Nat→Int→Option Int | 0,_=>none | n+1,y3=>aeU N v1 x0 x1 y3  (fun ar=>Je N v1 x0 x1 n ar)
def NL (N:Nat) (x0:ZZD) (x1:Int→Option Bool):Option Int:=
 Je N (x0.length:Int) x0 x1 N 0
abbrev Jf (c:Cx) (R:ZZF) (r:Int):Prop:=∀(g' h':AH),Sep c g' h' []→R (vi r) h'
theorem aBs {w0 c g h E R r N y3 k2 eF jk}(M:aeR N y3 eF=some r)(S:Sep c g h [])  (mM:Sub jk g)(mN:∀{ar:Int}{g2 h2:AH},eF ar=some r→Sub jk g2→Sep c g2 h2 []→k2 (vi ar) h2)(H:Jf c R r):XH w0 E R (vi y3) k2 h:=by
 unfold XH;unfold aeR at M;refine gE.2 ?_;exact mN M mM S
theorem aBt {w0 c g h E R r N x0 y3 x1 cA bV k2 eF jk}(M:aeS N x0 y3 x1 eF=some r)(S:Sep c g h [])(cZ:aa (rI .i64) 1 g cA x0)(cn:xv w0 g bV x1)(mM:Sub jk g)(mN:∀{ar:Int}{g2 h2:AH},eF ar=some r→Sub jk g2→Sep c g2 h2 []→k2 (vi ar) h2)(H:Jf c R r):XI w0 E R cA (vi y3) bV k2 h:=by
 unfold XI;unfold aeS at M;obtain⟨gi,nU,M⟩:=bind_some M;refine aa.idx cZ nU (fun vo NM vs E_6 Gi rp=>?_);cases rp;refine S.dK (Gi 0 _ rfl) ?_;obtain⟨eR,mL,M⟩:=bind_some M;refine cn.2 gi _ _ _ _ _ (Sub.refl _) S.sub S.ok  mL (fun _ h  S1  =>?_);have S:=S.dz S1;refine bR (fun hc=>?_) (fun hc=>?_)
 · have M:=aV hc M;cases M;exact H _ _  S.bO
 · have M:=aX hc M;exact aBs M S mM mN H
theorem aBu {w0 c g h E R r N}   (M:aeT N  =some r)(S:Sep c g h [])   (H:Jf c R r):XG w0 E R  h:=by
 unfold XG;unfold aeT at M;cases M;exact H _ _  S.bO
theorem aBv {w0 c g h E R r N v1 x0 x1 y3 cA bV k2 eF jk}(M:aeU N v1 x0 x1 y3 eF=some r)(S:Sep c g h [])(cZ:aa (rI .i64) 1 g cA x0)(cn:xv w0 g bV x1)(mM:Sub jk g)(mN:∀{ar:Int}{g2 h2:AH},eF ar=some r→Sub jk g2→Sep c g2 h2 []→k2 (vi ar) h2)(H:Jf c R r):QV w0 E R (vi v1) cA bV k2 (vi y3) h:=by
 unfold QV;unfold aeU at M;refine fj.2 (bR (fun hc=>?_) (fun hc=>?_))
 · have M:=aV hc M;exact aBt M S cZ cn mM mN H
 · have M:=aX hc M;exact aBu M S  H
theorem aBw {w0 c E R r N v1 x0 x1 cA bV}   (H:Jf c R r):∀(n:Nat){y3:Int}{g h:AH},Je N v1 x0 x1 n y3=some r→Sep c g h []→aa (rI .i64) 1 g cA x0→xv w0 g bV x1→gg (α:=Z) (fun k a=>QV w0 E R (vi v1) cA bV k a) n (vi y3) h:=by
 intro n
 induction n with
 | zero=>
  intro y3  g h M S cZ cn ;unfold Je at M;cases M
 | succ n ih=>
  intro y3  g h M S cZ cn ;exact aBv M S cZ cn  (Sub.refl g) (fun M2 sub S2  =>ih M2 S2 (aa.mono cZ (eD .i64) sub) (xv.mono cn sub)) H
theorem aBx {w0 g h Q r N x0 x1 cA bV}(M:NL N x0 x1=some r)(sg:Sub g h)(ok:h.Ok)(cZ:aa (rI .i64) 1 g cA x0)(cn:xv w0 g bV x1)(H:Jf ⟨g,h,[]⟩ (fun v=>Q (.ret v)) r):WF PP w0 XJ [cA,bV] h Q:=by
 refine asZ _ _ ?_;have S:=Sep.start sg ok;unfold ahQ;unfold NL at M;refine cZ.len ?_;exact⟨N,aBw  H _ M S cZ cn⟩
def Gj (N:Nat) (x0:ZZD) (x1:Int→Option Bool):Option Bool:=
(NL N x0 x1).bind fun gi=>
 some (decide (0≤gi))
abbrev aBy (c:Cx) (R:ZZF) (r:Bool):Prop:=∀(g' h':AH),Sep c g' h' []→R (.bool r) h'
theorem aoT {w0 g h Q r N x0 x1 cA bV}(M:Gj N x0 x1=some r)(sg:Sub g h)(ok:h.Ok)(cZ:aa (rI .i64) 1 g cA x0)(cn:xv w0 g bV x1)(H:aBy ⟨g,h,[]⟩ (fun v=>Q (.ret v)) r):WF PP w0 QW [cA,bV] h Q:=by
 refine as1 _ _ ?_;have S:=Sep.start sg ok;unfold ahR;unfold Gj at M;obtain⟨gi,nU,M⟩:=bind_some M;refine aBx nU S.sub S.ok cZ cn (fun _ h  S1  =>?_);have S:=S.dz S1;refine sk.2 ?_;cases M;exact H _ _  S.bO
def aeV (N:Nat) (y3:Int) (eF:Int→Option Int):Option Int:=
 eF (bN .i64 (y3+1))
def aeW (N:Nat) (x0:List al) (y3:Int) (x1:al→Option Bool) (eF:Int→Option Int):Option Int:=
(ix x0 y3).bind fun gi=>
(x1 gi).bind fun eR=>
 bif eR then(
 some y3)else(
 aeV N y3 eF)
def aeX (N:Nat)   :Option Int:=
 some (-1)
def aeY (N:Nat) (v1:Int) (x0:List al) (x1:al→Option Bool) (y3:Int) (eF:Int→Option Int):Option Int:=
 bif (decide (y3<v1))then(
 aeW N x0 y3 x1 eF)else(
 aeX N)
def Jg (N:Nat) (v1:Int) (x0:List al) (x1:al→Option Bool)  :Nat→Int→Option Int | 0,_=>none | n+1,y3=>aeY N v1 x0 x1 y3  (fun ar=>Jg N v1 x0 x1 n ar)
def Jh (N:Nat) (x0:List al) (x1:al→Option Bool):Option Int:=
 Jg N (x0.length:Int) x0 x1 N 0
abbrev Ji (c:Cx) (R:ZZF) (r:Int):Prop:=∀(g' h':AH),Sep c g' h' []→R (vi r) h'
theorem aBz {w0 c g h E R r N y3 k2 eF jk}(M:aeV N y3 eF=some r)(S:Sep c g h [])  (mM:Sub jk g)(mN:∀{ar:Int}{g2 h2:AH},eF ar=some r→Sub jk g2→Sep c g2 h2 []→k2 (vi ar) h2)(H:Ji c R r):YJ w0 E R (vi y3) k2 h:=by
 unfold YJ;unfold aeV at M;refine gE.2 ?_;exact mN M mM S
theorem aBA {w0 c g h E R r N x0 y3 x1 cA bV k2 eF jk}(M:aeW N x0 y3 x1 eF=some r)(S:Sep c g h [])(cZ:aa al.rep 3 g cA x0)(cn:xw w0 g bV x1)(mM:Sub jk g)(mN:∀{ar:Int}{g2 h2:AH},eF ar=some r→Sub jk g2→Sep c g2 h2 []→k2 (vi ar) h2)(H:Ji c R r):YK w0 E R cA (vi y3) bV k2 h:=by
 unfold YK;unfold aeW at M;obtain⟨gi,nU,M⟩:=bind_some M;refine aa.idx cZ nU (fun vo NM vs E_6 Gi rp=>?_);cases rp;refine S.iX Gi rfl (by decide) ?_;obtain⟨eR,mL,M⟩:=bind_some M;refine cn.2 gi _ _ _ _ _ (Sub.refl _) S.sub S.ok  mL (fun _ h  S1  =>?_);have S:=S.dz S1;refine bR (fun hc=>?_) (fun hc=>?_)
 · have M:=aV hc M;cases M;exact H _ _  S.bO
 · have M:=aX hc M;exact aBz M S mM mN H
theorem aBB {w0 c g h E R r N}   (M:aeX N  =some r)(S:Sep c g h [])   (H:Ji c R r):YI w0 E R  h:=by
 unfold YI;unfold aeX at M;cases M;exact H _ _  S.bO
theorem aBC {w0 c g h E R r N v1 x0 x1 y3 cA bV k2 eF jk}(M:aeY N v1 x0 x1 y3 eF=some r)(S:Sep c g h [])(cZ:aa al.rep 3 g cA x0)(cn:xw w0 g bV x1)(mM:Sub jk g)(mN:∀{ar:Int}{g2 h2:AH},eF ar=some r→Sub jk g2→Sep c g2 h2 []→k2 (vi ar) h2)(H:Ji c R r):Rh w0 E R (vi v1) cA bV k2 (vi y3) h:=by
 unfold Rh;unfold aeY at M;refine fj.2 (bR (fun hc=>?_) (fun hc=>?_))
 · have M:=aV hc M;exact aBA M S cZ cn mM mN H
 · have M:=aX hc M;exact aBB M S  H
theorem aBD {w0 c E R r N v1 x0 x1 cA bV}   (H:Ji c R r):∀(n:Nat){y3:Int}{g h:AH},Jg N v1 x0 x1 n y3=some r→Sep c g h []→aa al.rep 3 g cA x0→xw w0 g bV x1→gg (α:=Z) (fun k a=>Rh w0 E R (vi v1) cA bV k a) n (vi y3) h:=by
 intro n
 induction n with
 | zero=>
  intro y3  g h M S cZ cn ;unfold Jg at M;cases M
 | succ n ih=>
  intro y3  g h M S cZ cn ;exact aBC M S cZ cn  (Sub.refl g) (fun M2 sub S2  =>ih M2 S2 (aa.mono cZ al.mono sub) (xw.mono cn sub)) H
theorem aoU {w0 g h Q r N x0 x1 cA bV}(M:Jh N x0 x1=some r)(sg:Sub g h)(ok:h.Ok)(cZ:aa al.rep 3 g cA x0)(cn:xw w0 g bV x1)(H:Ji ⟨g,h,[]⟩ (fun v=>Q (.ret v)) r):WF PP w0 Ri [cA,bV] h Q:=by
 refine atm _ _ ?_;have S:=Sep.start sg ok;unfold ah8;unfold Jh at M;refine cZ.len ?_;exact⟨N,aBD  H _ M S cZ cn⟩
def Vq (N:Nat) (x0:List al) (x1:al→Option Bool):Option Bool:=
(Jh N x0 x1).bind fun gi=>
 some (decide (0≤gi))
abbrev aBE (c:Cx) (R:ZZF) (r:Bool):Prop:=∀(g' h':AH),Sep c g' h' []→R (.bool r) h'
theorem aBF {w0 g h Q r N x0 x1 cA bV}(M:Vq N x0 x1=some r)(sg:Sub g h)(ok:h.Ok)(cZ:aa al.rep 3 g cA x0)(cn:xw w0 g bV x1)(H:aBE ⟨g,h,[]⟩ (fun v=>Q (.ret v)) r):WF PP w0 Zy [cA,bV] h Q:=by
 refine atP _ _ ?_;have S:=Sep.start sg ok;unfold aiA;unfold Vq at M;obtain⟨gi,nU,M⟩:=bind_some M;refine aoU nU S.sub S.ok cZ cn (fun _ h  S1  =>?_);have S:=S.dz S1;refine sk.2 ?_;cases M;exact H _ _  S.bO
def Jj (x0:Int) (x1:Int):Option Bool:=
(kb x0 0 (bN .i64 (x1-1))).bind fun gi=>
 some (!gi)
abbrev aBG (c:Cx) (R:ZZF) (r:Bool):Prop:=∀(g' h':AH),Sep c g' h' []→R (.bool r) h'
theorem aBH {w0 g h Q r x0 x1 oy}(M:Jj x0 x1=some r)(sg:Sub g h)(ok:h.Ok)(qD:g.bH oy 0 [vi x1])(H:aBG ⟨g,h,[]⟩ (fun v=>Q (.ret v)) r):WF PP w0 RV [vi x0,ak oy 0] h Q:=by
 refine atK _ _ ?_;have S:=Sep.start sg ok;unfold aiy;unfold Jj at M;refine S.dK (qD 0 _ rfl) (lB.2 ?_);obtain⟨gi,nU,M⟩:=bind_some M;refine mJ nU S.sub S.ok (fun _ h  S1  =>?_);have S:=S.dz S1;refine dZ.2 ?_;cases M;exact H _ _  S.bO
def NN (v1:al) (x1:Int) (b9:Bool)  :Option Bool:=
 bif b9 then(
 some true)else(
(kb v1.bG 0 (bN .i64 (x1-1))).bind fun cv=>
 some (!cv))
def NO (v1:al) (x1:Int) (v10:Bool)  :Option Bool:=
 bif v10 then(
 NN v1 x1 true)else(
 NN v1 x1 (decide (x1<v1.dO)))
def Jk (x0:al) (x1:Int):Option Bool:=
 bif (decide (x0.dk<0))then(
 NO x0 x1 true)else(
 NO x0 x1 (decide (x0.dO≤x0.dk)))
abbrev aeZ (c:Cx) (R:ZZF) (r:Bool):Prop:=∀(g' h':AH),Sep c g' h' []→R (.bool r) h'
theorem aoV {w0 c g h E R r v1 x1 b9 av oy}  (M:NN v1 x1 b9=some r)(S:Sep c g h [.bx av [vi v1.dk,vi v1.dO,vi v1.bG]])(qD:g.bH oy 0 [vi x1])  (H:aeZ c R r):Zw w0 E R (ak av 0) (ak oy 0) (.bool b9) h:=by
 unfold Zw;unfold NN at M;cases hc:b9
 · have M:=aX hc M;refine au rfl (aQ.2 (au rfl (S.aP 0 rfl rfl (au rfl (S.dK (qD 0 _ rfl) (au rfl (lB.2 (au rfl ?_))))))));obtain⟨cv,nS,M⟩:=bind_some M;refine mJ nS S.sub S.ok (fun _ h  S1  =>?_);have S:=S.dz S1;refine au rfl (dZ.2 (aW.2 ?_));cases M;exact H _ _  S.bO
 · have M:=aV hc M;repeat refine ax (by decide) ?_;refine aW.2 ?_;cases M;exact H _ _  S.bO
theorem aoW {w0 c g h E R r v1 x1 v10 av oy}  (M:NO v1 x1 v10=some r)(S:Sep c g h [.bx av [vi v1.dk,vi v1.dO,vi v1.bG]])(qD:g.bH oy 0 [vi x1])  (H:aeZ c R r):Zx w0 E R (ak av 0) (ak oy 0) (.bool v10) h:=by
 unfold Zx;unfold NO at M;cases hc:v10
 · have M:=aX hc M;refine au rfl (aQ.2 (au rfl (S.aP 0 rfl rfl (au rfl (S.dK (qD 0 _ rfl) (au rfl (kT.2 (aW.2 ?_))))))));exact aoV M S qD H
 · have M:=aV hc M;repeat refine ax (by decide) ?_;refine aW.2 ?_;exact aoV M S qD H
theorem aBI {w0 g h Q r x0 x1 oy}(M:Jk x0 x1=some r)(sg:Sub g h)(ok:h.Ok)(qD:g.bH oy 0 [vi x1])(H:aeZ ⟨g,h,[]⟩ (fun v=>Q (.ret v)) r):WF PP w0 RW [(.agg ⟨[vi x0.dk,vi x0.dO,vi x0.bG]⟩),ak oy 0] h Q:=by
 refine atN _ _ ?_;have S:=Sep.start sg ok;unfold aiz;unfold Jk at M;refine S.box [vi x0.dk,vi x0.dO,vi x0.bG] rfl (ag rfl (ag rfl (ag rfl rfl))) (fun jN h S=>?_);refine aQ.2 (S.aP 0 rfl rfl (fj.2 ?_));cases hc:(decide (x0.dk<0))
 · have M:=aX hc M;refine au rfl (aQ.2 (au rfl (S.aP 0 rfl rfl (au rfl (aQ.2 (au rfl (S.aP 0 rfl rfl (au rfl (sk.2 (aW.2 ?_))))))))));exact aoW M S qD H
 · have M:=aV hc M;repeat refine ax (by decide) ?_;refine aW.2 ?_;exact aoW M S qD H
def ae0 (N:Nat) (eC:Int) (fP:ae) (oz:Int→Option Bool):Option Bool:=
 oz (bN .i64 (eC+1))
def Jl (N:Nat) (eC:Int) (dM:Bool) (fP:ae) (oz:Int→Option Bool):Option Bool:=
 bif dM then(
 some false)else(
 ae0 N eC fP oz)
def ae1 (N:Nat) (bW:List ah) (eC:Int) (v5:Int) (fP:ae) (oz:Int→Option Bool):Option Bool:=
(ix bW eC).bind fun gj=>
(Db gj.aJ).bind fun ke=>
 bif (!ke.2)then(
 Jl N eC true fP oz)else(
(Gf N gj).bind fun Vr=>
(Gj N Vr (fun a0=>Jj a0 v5)).bind fun pU=>
 Jl N eC pU fP oz)
def Jm (N:Nat) (v1:ae) (v5:Int)  :Option Bool:=
(Vq N v1.aI (fun a0=>Jk a0 v5)).bind fun FV=>
 some (!FV)
def ae2 (N:Nat) (cD:Int) (bW:List ah) (v5:Int) (v1:ae) (eC:Int) (oz:Int→Option Bool):Option Bool:=
 bif (decide (eC<cD))then(
 ae1 N bW eC v5 v1 oz)else(
 Jm N v1 v5)
def NP (N:Nat) (cD:Int) (bW:List ah) (v5:Int) (v1:ae)  :Nat→Int→Option Bool | 0,_=>none | n+1,eC=>ae2 N cD bW v5 v1 eC  (fun ar=>NP N cD bW v5 v1 n ar)
def NQ (N:Nat) (v1:ae) (v5:Int)  :Option Bool:=
 NP N (v1.ab.length:Int) v1.ab v5 v1 N 0
def NR (N:Nat) (v1:ae) (v5:Int) (v53:Bool)  :Option Bool:=
 bif v53 then(
 some false)else(
 NQ N v1 v5)
def NS (N:Nat) (v1:ae) (v5:Int) (fo:Bool)  :Option Bool:=
 bif fo then(
 NR N v1 v5 true)else(
(kb v1.aD 0 200).bind fun eR=>
 NR N v1 v5 (!eR))
def NU (N:Nat) (v1:ae) (v5:Int) (gY:Bool)  :Option Bool:=
 bif gY then(
 NS N v1 v5 true)else(
(kb v1.aE 0 200).bind fun jw=>
 NS N v1 v5 (!jw))
def Dc (N:Nat) (x0:ae):Option Bool:=
(kb (x0.ab.length:Int) 1 600).bind fun ru=>
 bif (!ru)then(
 NU N x0 (x0.ab.length:Int) true)else(
 NU N x0 (x0.ab.length:Int) (decide (40<(x0.aI.length:Int))))
abbrev xx (c:Cx) (R:ZZF) (r:Bool):Prop:=∀(g' h':AH),Sep c g' h' []→R (.bool r) h'
theorem aBJ {w0 c g h E R r N eC fP Dd xy xz oS oz xA}(M:ae0 N eC fP oz=some r)(S:Sep c g h [.bx Dd (ZZA fP xy xz)])(Gk:aa ah.rep 4 g xy fP.ab)(Gl:aa al.rep 3 g xz fP.aI)(zj:Sub xA g)(De:∀{ar:Int}{g2 h2:AH},oz ar=some r→Sub xA g2→Sep c g2 h2 [.bx Dd (ZZA fP xy xz)]→oS (vi ar) h2)(H:xx c R r):ZA w0 E R (vi eC) oS h:=by
 unfold ZA;unfold ae0 at M;refine gE.2 ?_;exact De M zj S
theorem aoX {w0 c g h E R r N eC dM fP Dd xy xz oS oz xA}(M:Jl N eC dM fP oz=some r)(S:Sep c g h [.bx Dd (ZZA fP xy xz)])(Gk:aa ah.rep 4 g xy fP.ab)(Gl:aa al.rep 3 g xz fP.aI)(zj:Sub xA g)(De:∀{ar:Int}{g2 h2:AH},oz ar=some r→Sub xA g2→Sep c g2 h2 [.bx Dd (ZZA fP xy xz)]→oS (vi ar) h2)(H:xx c R r):ZB w0 E R (vi eC) oS (.bool dM) h:=by
 unfold ZB;unfold Jl at M;refine bR (fun hc=>?_) (fun hc=>?_)
 · have M:=aV hc M;cases M;exact H _ _  S.bO
 · have M:=aX hc M;exact aBJ M S Gk Gl zj De H
theorem aBK {w0 c g h E R r N bW eC v5 fP Df lU Dd xy xz oS oz xA}(M:ae1 N bW eC v5 fP oz=some r)(S:Sep c g h [.bx Dd (ZZA fP xy xz)])(Bl:aa ah.rep 4 g Df bW)(wk:g.bH lU 0 [vi v5])(Gk:aa ah.rep 4 g xy fP.ab)(Gl:aa al.rep 3 g xz fP.aI)(zj:Sub xA g)(De:∀{ar:Int}{g2 h2:AH},oz ar=some r→Sub xA g2→Sep c g2 h2 [.bx Dd (ZZA fP xy xz)]→oS (vi ar) h2)(H:xx c R r):ZC w0 E R Df (vi eC) (ak lU 0) oS h:=by
 unfold ZC;unfold ae1 at M;obtain⟨gj,aeq,M⟩:=bind_some M;refine aa.idx Bl aeq (fun Nu aAO vs aoY ae3 rp=>?_);cases rp;refine S.iX ae3 rfl (by decide) (S.alloc (l:=[vi 0,vi 0,vi 0,vi 0]) (ag rfl (ag rfl (ag rfl (ag rfl rfl)))) (fun azH h S=>?_));refine S.cV (ZZC gj) (ZZC gj) rfl rfl (ag rfl (ag rfl (ag rfl (ag rfl rfl)))) (zaa rfl) rfl (fun h S=>?_);refine aQ.2 (S.aP 0 rfl rfl ?_);obtain⟨ke,NV,M⟩:=bind_some M;refine Gh gj.aJ S.sub S.ok NV (fun _ h  S1  =>?_);have S:=S.dz S1;refine(fk rfl).2 ?_;refine(fk rfl).2 ?_;refine S.alloc (l:=[(.string (⟨⟨[]⟩⟩:ByteArray)),vi 0,vi 0,vi 0,vi 0,vi 0,vi 0,.bool false,.bool false]) (ag rfl (ag rfl (ag rfl (ag rfl (ag rfl (ag rfl (ag rfl (ag rfl (ag rfl rfl))))))))) (fun aKe h S=>?_);refine S.cV [.string ke.1.ml,vi ke.1.cL.e0,vi ke.1.cL.e1,vi ke.1.cL.e2,vi ke.1.jx,vi ke.1.dF.e0,vi ke.1.dF.e1,.bool ke.1.jV,.bool ke.1.jP] [.string ke.1.ml,vi ke.1.cL.e0,vi ke.1.cL.e1,vi ke.1.cL.e2,vi ke.1.jx,vi ke.1.dF.e0,vi ke.1.dF.e1,.bool ke.1.jV,.bool ke.1.jP] rfl rfl (ag rfl (ag rfl (ag rfl (ag rfl (ag rfl (ag rfl (ag rfl (ag rfl (ag rfl rfl))))))))) (zaa rfl) rfl (fun h S=>?_);refine dZ.2 ?_;cases hc:(!ke.2)
 · have M:=aX hc M;refine au rfl (S.eA (ZZC gj) 1 rfl rfl rfl (by decide) (au rfl ?_));obtain⟨Vr,aBL,M⟩:=bind_some M;refine aoS aBL S.sub S.ok (fun g h aKf S1 aBM=>?_);have Bl:=aa.mono Bl ah.mono S1.bF;have wk:=S1.bF.bH wk;have ae3:=S1.bF.bH ae3;have Gk:=aa.mono Gk ah.mono S1.bF;have Gl:=aa.mono Gl al.mono S1.bF;have zj:=Sub.trans zj S1.bF;have S:=S.ou S1;refine au rfl ?_;refine(Ii (by simp)).2 ?_;refine au rfl ?_;have aBN:xv w0 g (.func (.func RV) ⟨[]⟩ ⟨[ak lU 0]⟩) (fun a0=>Jj a0 v5):=⟨rfl,fun a0 r E K g2 h2 s1 s2 s3  m1 k1=>aBH m1 s2 s3 (Sub.bH s1 wk) k1⟩;obtain⟨pU,Gm,M⟩:=bind_some M;refine aoT Gm S.sub S.ok aBM aBN (fun _ h  S1  =>?_);have S:=S.dz S1;refine aW.2 ?_;have S:=S.f2.t1;exact aoX M S Gk Gl zj De H
 · have M:=aV hc M;repeat refine ax (by decide) ?_;refine aW.2 ?_;have S:=S.f2.t1;exact aoX M S Gk Gl zj De H
theorem aBO {w0 c g h E R r N v1 v5 av aA az lU}  (M:Jm N v1 v5=some r)(S:Sep c g h [.bx av (ZZA v1 aA az)])(aH:aa ah.rep 4 g aA v1.ab)(aG:aa al.rep 3 g az v1.aI)(wk:g.bH lU 0 [vi v5])  (H:xx c R r):Zz w0 E R (ak av 0) (ak lU 0) h:=by
 unfold Zz;unfold Jm at M;refine aQ.2 (S.aP 0 rfl rfl ?_);refine(Ii (by simp)).2 ?_;have aBP:xw w0 g (.func (.func RW) ⟨[]⟩ ⟨[ak lU 0]⟩) (fun a0=>Jk a0 v5):=⟨rfl,fun a0 r E K g2 h2 s1 s2 s3  m1 k1=>aBI m1 s2 s3 (Sub.bH s1 wk) k1⟩;obtain⟨FV,Nn,M⟩:=bind_some M;refine aBF Nn S.sub S.ok aG aBP (fun _ h  S1  =>?_);have S:=S.dz S1;refine dZ.2 ?_;cases M;exact H _ _  S.bO
theorem aBQ {w0 c g h E R r N cD bW v5 v1 eC Df lU av aA az oS oz xA}(M:ae2 N cD bW v5 v1 eC oz=some r)(S:Sep c g h [.bx av (ZZA v1 aA az)])(Bl:aa ah.rep 4 g Df bW)(wk:g.bH lU 0 [vi v5])(aH:aa ah.rep 4 g aA v1.ab)(aG:aa al.rep 3 g az v1.aI)(zj:Sub xA g)(De:∀{ar:Int}{g2 h2:AH},oz ar=some r→Sub xA g2→Sep c g2 h2 [.bx av (ZZA v1 aA az)]→oS (vi ar) h2)(H:xx c R r):RX w0 E R (vi cD) Df (ak lU 0) (ak av 0) oS (vi eC) h:=by
 unfold RX;unfold ae2 at M;refine fj.2 (bR (fun hc=>?_) (fun hc=>?_))
 · have M:=aV hc M;exact aBK M S Bl wk aH aG zj De H
 · have M:=aX hc M;exact aBO M S aH aG wk H
theorem aBR {w0 c E R r N cD bW v5 v1 Df lU av aA az}   (H:xx c R r):∀(n:Nat){eC:Int}{g h:AH},NP N cD bW v5 v1 n eC=some r→Sep c g h [.bx av (ZZA v1 aA az)]→aa ah.rep 4 g Df bW→g.bH lU 0 [vi v5]→aa ah.rep 4 g aA v1.ab→aa al.rep 3 g az v1.aI→gg (α:=Z) (fun k a=>RX w0 E R (vi cD) Df (ak lU 0) (ak av 0) k a) n (vi eC) h:=by
 intro n
 induction n with
 | zero=>
  intro eC  g h M S Bl wk aH aG ;unfold NP at M;cases M
 | succ n ih=>
  intro eC  g h M S Bl wk aH aG ;exact aBQ M S Bl wk aH aG  (Sub.refl g) (fun M2 sub S2  =>ih M2 S2 (aa.mono Bl ah.mono sub) (Sub.bH sub wk) (aa.mono aH ah.mono sub) (aa.mono aG al.mono sub)) H
theorem aBS {w0 c g h E R r N v1 v5 av aA az lU}  (M:NQ N v1 v5=some r)(S:Sep c g h [.bx av (ZZA v1 aA az),.bx lU [vi v5]])(aH:aa ah.rep 4 g aA v1.ab)(aG:aa al.rep 3 g az v1.aI)  (H:xx c R r):ZD w0 E R (ak av 0) (ak lU 0) h:=by
 unfold ZD;unfold NQ at M;refine aQ.2 (S.aP 0 rfl rfl (aH.len ?_));have S:=S.f1;obtain⟨g,sg,S,NW⟩:=S.vk;have aH:=aa.mono aH ah.mono sg;have aG:=aa.mono aG al.mono sg;exact⟨N,aBR  H _ M S aH NW aH aG⟩
theorem aoZ {w0 c g h E R r N v1 v5 v53 av aA az lU}  (M:NR N v1 v5 v53=some r)(S:Sep c g h [.bx av (ZZA v1 aA az),.bx lU [vi v5]])(aH:aa ah.rep 4 g aA v1.ab)(aG:aa al.rep 3 g az v1.aI)  (H:xx c R r):ZE w0 E R (ak av 0) (ak lU 0) (.bool v53) h:=by
 unfold ZE;unfold NR at M;refine bR (fun hc=>?_) (fun hc=>?_)
 · have M:=aV hc M;cases M;exact H _ _  S.bO
 · have M:=aX hc M;exact aBS M S aH aG H
theorem ao0 {w0 c g h E R r N v1 v5 fo av aA az lU}  (M:NS N v1 v5 fo=some r)(S:Sep c g h [.bx av (ZZA v1 aA az),.bx lU [vi v5]])(aH:aa ah.rep 4 g aA v1.ab)(aG:aa al.rep 3 g az v1.aI)  (H:xx c R r):ZF w0 E R (ak av 0) (ak lU 0) (.bool fo) h:=by
 unfold ZF;unfold NS at M;cases hc:fo
 · have M:=aX hc M;refine au rfl (aQ.2 (au rfl (S.aP 0 rfl rfl (au rfl ?_))));obtain⟨eR,mL,M⟩:=bind_some M;refine mJ mL S.sub S.ok (fun _ h  S1  =>?_);have S:=S.dz S1;refine au rfl (dZ.2 (aW.2 ?_));exact aoZ M S aH aG H
 · have M:=aV hc M;repeat refine ax (by decide) ?_;refine aW.2 ?_;exact aoZ M S aH aG H
theorem ao1 {w0 c g h E R r N v1 v5 gY av aA az lU}  (M:NU N v1 v5 gY=some r)(S:Sep c g h [.bx av (ZZA v1 aA az),.bx lU [vi v5]])(aH:aa ah.rep 4 g aA v1.ab)(aG:aa al.rep 3 g az v1.aI)  (H:xx c R r):ZG w0 E R (ak av 0) (ak lU 0) (.bool gY) h:=by
 unfold ZG;unfold NU at M;cases hc:gY
 · have M:=aX hc M;refine au rfl (aQ.2 (au rfl (S.aP 0 rfl rfl (au rfl ?_))));obtain⟨jw,qB,M⟩:=bind_some M;refine mJ qB S.sub S.ok (fun _ h  S1  =>?_);have S:=S.dz S1;refine au rfl (dZ.2 (aW.2 ?_));exact ao0 M S aH aG H
 · have M:=aV hc M;repeat refine ax (by decide) ?_;refine aW.2 ?_;exact ao0 M S aH aG H
theorem Vs {w0 g h Q r N x0 cw cx}(M:Dc N x0=some r)(sg:Sub g h)(ok:h.Ok)(cg:aa ah.rep 4 g cw x0.ab)(cz:aa al.rep 3 g cx x0.aI)(H:xx ⟨g,h,[]⟩ (fun v=>Q (.ret v)) r):WF PP w0 Hp [(.agg ⟨(ZZA x0 cw cx)⟩)] h Q:=by
 refine atS _ ?_;have S:=Sep.start sg ok;unfold aiB;unfold Dc at M;refine S.box (ZZA x0 cw cx) rfl (ag rfl (ag rfl (ag rfl (ag rfl (ag rfl (ag cg.one (ag cz.one rfl))))))) (fun jN h S=>?_);refine aQ.2 (S.aP 0 rfl rfl (cg.len (S.alloc (l:=[vi 0]) (ag rfl rfl) (fun sE h S=>?_))));refine S.cV [(vi (x0.ab.length:Int))] [(vi (x0.ab.length:Int))] rfl rfl (ag rfl rfl) (zaa rfl) rfl (fun h S=>?_);refine S.aP 0 rfl rfl ?_;obtain⟨ru,Gn,M⟩:=bind_some M;refine mJ Gn S.sub S.ok (fun _ h  S1  =>?_);have S:=S.dz S1;refine dZ.2 ?_;cases hc:(!ru)
 · have M:=aX hc M;refine au rfl (aQ.2 (au rfl (S.aP 1 rfl rfl (au rfl (cz.len (au rfl (kT.2 (aW.2 ?_))))))));have S:=S.f1;exact ao1 M S cg cz H
 · have M:=aV hc M;repeat refine ax (by decide) ?_;refine aW.2 ?_;have S:=S.f1;exact ao1 M S cg cz H
def Vt (N:Nat) (y2:Int) (tW:Int→Option Bool):Option Bool:=
 tW (bN .i64 (y2+1))
def Vu (N:Nat) (x0:ZZD) (y2:Int) (x1:ZZD) (tW:Int→Option Bool):Option Bool:=
(ix x0 y2).bind fun gi=>
(ix x1 y2).bind fun eR=>
 bif (!decide (gi=eR))then(
 some false)else(
 Vt N y2 tW)
def ae4 (N:Nat)   :Option Bool:=
 some true
def Gp (N:Nat) (x0:ZZD) (x1:ZZD) (y2:Int) (tW:Int→Option Bool):Option Bool:=
 bif (decide (y2<(x0.length:Int)))then(
 Vu N x0 y2 x1 tW)else(
 ae4 N)
def NX (N:Nat) (x0:ZZD) (x1:ZZD)  :Nat→Int→Option Bool | 0,_=>none | n+1,y2=>Gp N x0 x1 y2  (fun ar=>NX N x0 x1 n ar)
def Vv (N:Nat) (x0:ZZD) (x1:ZZD)  :Option Bool:=
 NX N x0 x1 N 0
def M1 (N:Nat) (x0:ZZD) (x1:ZZD):Option Bool:=
 bif (!decide ((x0.length:Int)=(x1.length:Int)))then(
 some false)else(
 Vv N x0 x1)
abbrev Gq (c:Cx) (R:ZZF) (r:Bool):Prop:=∀(g' h':AH),Sep c g' h' []→R (.bool r) h'
theorem aBT {w0 c g h E R r N y2 k1 tW Dg}(M:Vt N y2 tW=some r)(S:Sep c g h [])  (NY:Sub Dg g)(NZ:∀{ar:Int}{g2 h2:AH},tW ar=some r→Sub Dg g2→Sep c g2 h2 []→k1 (vi ar) h2)(H:Gq c R r):ZW w0 E R (vi y2) k1 h:=by
 unfold ZW;unfold Vt at M;refine gE.2 ?_;exact NZ M NY S
theorem aBU {w0 c g h E R r N x0 y2 x1 cA bV k1 tW Dg}(M:Vu N x0 y2 x1 tW=some r)(S:Sep c g h [])(cZ:aa (rI .i64) 1 g cA x0)(cn:aa (rI .i64) 1 g bV x1)(NY:Sub Dg g)(NZ:∀{ar:Int}{g2 h2:AH},tW ar=some r→Sub Dg g2→Sep c g2 h2 []→k1 (vi ar) h2)(H:Gq c R r):ZX w0 E R cA (vi y2) bV k1 h:=by
 unfold ZX;unfold Vu at M;obtain⟨gi,nU,M⟩:=bind_some M;refine aa.idx cZ nU (fun vo NM vs E_6 Gi rp=>?_);cases rp;refine S.dK (Gi 0 _ rfl) ?_;obtain⟨eR,mL,M⟩:=bind_some M;refine aa.idx cn mL (fun b_9 aKg vs aKh Jn rp=>?_);cases rp;refine S.dK (Jn 0 _ rfl) (gb.2 (bR (fun hc=>?_) (fun hc=>?_)))
 · have M:=aV hc M;cases M;exact H _ _  S.bO
 · have M:=aX hc M;exact aBT M S NY NZ H
theorem aBV {w0 c g h E R r N}   (M:ae4 N  =some r)(S:Sep c g h [])   (H:Gq c R r):ZV w0 E R  h:=by
 unfold ZV;unfold ae4 at M;cases M;exact H _ _  S.bO
theorem aBW {w0 c g h E R r N x0 x1 y2 cA bV k1 tW Dg}(M:Gp N x0 x1 y2 tW=some r)(S:Sep c g h [])(cZ:aa (rI .i64) 1 g cA x0)(cn:aa (rI .i64) 1 g bV x1)(NY:Sub Dg g)(NZ:∀{ar:Int}{g2 h2:AH},tW ar=some r→Sub Dg g2→Sep c g2 h2 []→k1 (vi ar) h2)(H:Gq c R r):R9 w0 E R cA bV k1 (vi y2) h:=by
 unfold R9;unfold Gp at M;refine cZ.len (fj.2 (bR (fun hc=>?_) (fun hc=>?_)))
 · have M:=aV hc M;exact aBU M S cZ cn NY NZ H
 · have M:=aX hc M;exact aBV M S  H
theorem aBX {w0 c E R r N x0 x1 cA bV}   (H:Gq c R r):∀(n:Nat){y2:Int}{g h:AH},NX N x0 x1 n y2=some r→Sep c g h []→aa (rI .i64) 1 g cA x0→aa (rI .i64) 1 g bV x1→gg (α:=Z) (fun k a=>R9 w0 E R cA bV k a) n (vi y2) h:=by
 intro n
 induction n with
 | zero=>
  intro y2  g h M S cZ cn ;unfold NX at M;cases M
 | succ n ih=>
  intro y2  g h M S cZ cn ;exact aBW M S cZ cn  (Sub.refl g) (fun M2 sub S2  =>ih M2 S2 (aa.mono cZ (eD .i64) sub) (aa.mono cn (eD .i64) sub)) H
theorem aBY {w0 c g h E R r N x0 x1 cA bV}  (M:Vv N x0 x1=some r)(S:Sep c g h [])(cZ:aa (rI .i64) 1 g cA x0)(cn:aa (rI .i64) 1 g bV x1)  (H:Gq c R r):ZY w0 E R cA bV h:=by
 unfold ZY;unfold Vv at M;exact⟨N,aBX  H _ M S cZ cn⟩
theorem aAg {w0 g h Q r N x0 x1 cA bV}(M:M1 N x0 x1=some r)(sg:Sub g h)(ok:h.Ok)(cZ:aa (rI .i64) 1 g cA x0)(cn:aa (rI .i64) 1 g bV x1)(H:Gq ⟨g,h,[]⟩ (fun v=>Q (.ret v)) r):WF PP w0 ZZ [cA,bV] h Q:=by
 refine atW _ _ ?_;have S:=Sep.start sg ok;unfold aiG;unfold M1 at M;refine cZ.len (cn.len (gb.2 (bR (fun hc=>?_) (fun hc=>?_))))
 · have M:=aV hc M;cases M;exact H _ _  S.bO
 · have M:=aX hc M;exact aBY M S cZ cn H
def Vw (N:Nat) (jC:Int) (tX:ae) (tY:ae) (tZ:Int→Option Bool):Option Bool:=
 tZ (bN .i64 (jC+1))
def Vx (N:Nat) (v1:ae) (jC:Int) (v2:ae) (tZ:Int→Option Bool):Option Bool:=
(ix v1.ab jC).bind fun ru=>
(ix v2.ab jC).bind fun fD=>
 bif ((decide (ru.aJ=fD.aJ)&&(decide (ru.fA=fD.fA)&&(decide (ru.fB=fD.fB)&&(decide (ru.fC=fD.fC)&&true)))) != true)then(
 some false)else(
 Vw N jC v1 v2 tZ)
def Vy (N:Nat) (y4:Int) (ua:ae) (ub:ae) (kA:Int→Option Bool):Option Bool:=
 kA (bN .i64 (y4+1))
def Vz (N:Nat) (v1:ae) (y4:Int) (v2:ae) (kA:Int→Option Bool):Option Bool:=
(ix v1.aI y4).bind fun rv=>
(ix v2.aI y4).bind fun sB=>
 bif ((decide (rv.dk=sB.dk)&&(decide (rv.dO=sB.dO)&&(decide (rv.bG=sB.bG)&&true))) != true)then(
 some false)else(
 Vy N y4 v1 v2 kA)
def ae5 (N:Nat)   :Option Bool:=
 some true
def Gr (N:Nat) (v1:ae) (v2:ae) (y4:Int) (kA:Int→Option Bool):Option Bool:=
 bif (decide (y4<(v1.aI.length:Int)))then(
 Vz N v1 y4 v2 kA)else(
 ae5 N)
def Jo (N:Nat) (v1:ae) (v2:ae)  :Nat→Int→Option Bool | 0,_=>none | n+1,y4=>Gr N v1 v2 y4  (fun ar=>Jo N v1 v2 n ar)
def ae6 (N:Nat) (v1:ae) (v2:ae)  :Option Bool:=
 Jo N v1 v2 N 0
def Gs (N:Nat) (v1:ae) (v2:ae) (jC:Int) (tZ:Int→Option Bool):Option Bool:=
 bif (decide (jC<(v1.ab.length:Int)))then(
 Vx N v1 jC v2 tZ)else(
 ae6 N v1 v2)
def N0 (N:Nat) (v1:ae) (v2:ae)  :Nat→Int→Option Bool | 0,_=>none | n+1,jC=>Gs N v1 v2 jC  (fun ar=>N0 N v1 v2 n ar)
def VA (N:Nat) (v1:ae) (v2:ae)  :Option Bool:=
 N0 N v1 v2 N 0
def N2 (N:Nat) (v1:ae) (v2:ae) (my:Bool)  :Option Bool:=
 bif my then(
 some false)else(
 VA N v1 v2)
def N3 (N:Nat) (v1:ae) (v2:ae) (ie:Bool)  :Option Bool:=
 bif ie then(
 N2 N v1 v2 true)else(
 N2 N v1 v2 (!decide ((v1.aI.length:Int)=(v2.aI.length:Int))))
def N4 (N:Nat) (v1:ae) (v2:ae) (iv:Bool)  :Option Bool:=
 bif iv then(
 N3 N v1 v2 true)else(
 N3 N v1 v2 (!decide ((v1.ab.length:Int)=(v2.ab.length:Int))))
def N5 (N:Nat) (v1:ae) (v2:ae) (dB:Bool)  :Option Bool:=
 bif dB then(
 N4 N v1 v2 true)else(
 N4 N v1 v2 (!decide (v1.aD=v2.aD)))
def N6 (N:Nat) (v1:ae) (v2:ae) (v51:Bool)  :Option Bool:=
 bif v51 then(
 N5 N v1 v2 true)else(
 N5 N v1 v2 (!decide (v1.aE=v2.aE)))
def N7 (N:Nat) (v1:ae) (v2:ae) (gZ:Bool)  :Option Bool:=
 bif gZ then(
 N6 N v1 v2 true)else(
 N6 N v1 v2 (!decide (v1.fArgs=v2.fArgs)))
def Ng (N:Nat) (x0:ae) (x1:ae):Option Bool:=
 bif (!decide (x0.aC=x1.aC))then(
 N7 N x0 x1 true)else(
 N7 N x0 x1 (!decide (x0.ay=x1.ay)))
abbrev pV (c:Cx) (R:ZZF) (r:Bool):Prop:=∀(g' h':AH),Sep c g' h' []→R (.bool r) h'
theorem aBZ {w0 c g h E R r N jC tX tY ao2 ae7 ae8 ao3 ae9 afa tk tZ Dh}(M:Vw N jC tX tY tZ=some r)(S:Sep c g h [.bx ao2 (ZZA tX ae7 ae8),.bx ao3 (ZZA tY ae9 afa)])(aKi:aa ah.rep 4 g ae7 tX.ab)(aKj:aa al.rep 3 g ae8 tX.aI)(aKk:aa ah.rep 4 g ae9 tY.ab)(aKl:aa al.rep 3 g afa tY.aI)(N8:Sub Dh g)(N9:∀{ar:Int}{g2 h2:AH},tZ ar=some r→Sub Dh g2→Sep c g2 h2 [.bx ao2 (ZZA tX ae7 ae8),.bx ao3 (ZZA tY ae9 afa)]→tk (vi ar) h2)(H:pV c R r):aap w0 E R (vi jC) tk h:=by
 unfold aap;unfold Vw at M;refine gE.2 ?_;exact N9 M N8 S
theorem aB0 {w0 c g h E R r N v1 jC v2 av aA az aK bf bg tk tZ Dh}(M:Vx N v1 jC v2 tZ=some r)(S:Sep c g h [.bx av (ZZA v1 aA az),.bx aK (ZZA v2 bf bg)])(aH:aa ah.rep 4 g aA v1.ab)(aG:aa al.rep 3 g az v1.aI)(bj:aa ah.rep 4 g bf v2.ab)(bz:aa al.rep 3 g bg v2.aI)(N8:Sub Dh g)(N9:∀{ar:Int}{g2 h2:AH},tZ ar=some r→Sub Dh g2→Sep c g2 h2 [.bx av (ZZA v1 aA az),.bx aK (ZZA v2 bf bg)]→tk (vi ar) h2)(H:pV c R r):aaq w0 E R (ak av 0) (vi jC) (ak aK 0) tk h:=by
 unfold aaq;unfold Vx at M;refine aQ.2 (S.aP 0 rfl rfl ?_);obtain⟨ru,Gn,M⟩:=bind_some M;refine aa.idx aH Gn (fun b_5 o_6 vs E_8 Oa rp=>?_);cases rp;refine S.iX Oa rfl (by decide) (aQ.2 (S.aP 1 rfl rfl ?_));obtain⟨fD,qC,M⟩:=bind_some M;refine aa.idx bj qC (fun ao4 aB1 vs aKm aB2 rp=>?_);cases rp;refine S.iX aB2 rfl (by decide) ?_;refine(aeG (C9 (C9 (C9 (C9 aeF))))).2 ?_;refine bR (fun hc=>?_) (fun hc=>?_)
 · have M:=aV hc M;cases M;exact H _ _  S.bO
 · have M:=aX hc M;exact aBZ M S aH aG bj bz N8 N9 H
theorem aB3 {w0 c g h E R r N y4 ua ub ao5 afb afc ao6 afd afe k3 kA qE}(M:Vy N y4 ua ub kA=some r)(S:Sep c g h [.bx ao5 (ZZA ua afb afc),.bx ao6 (ZZA ub afd afe)])(aKn:aa ah.rep 4 g afb ua.ab)(aKo:aa al.rep 3 g afc ua.aI)(aKp:aa ah.rep 4 g afd ub.ab)(aKq:aa al.rep 3 g afe ub.aI)(vq:Sub qE g)(xB:∀{ar:Int}{g2 h2:AH},kA ar=some r→Sub qE g2→Sep c g2 h2 [.bx ao5 (ZZA ua afb afc),.bx ao6 (ZZA ub afd afe)]→k3 (vi ar) h2)(H:pV c R r):aam w0 E R (vi y4) k3 h:=by
 unfold aam;unfold Vy at M;refine gE.2 ?_;exact xB M vq S
theorem aB4 {w0 c g h E R r N v1 y4 v2 av aA az aK bf bg k3 kA qE}(M:Vz N v1 y4 v2 kA=some r)(S:Sep c g h [.bx av (ZZA v1 aA az),.bx aK (ZZA v2 bf bg)])(aH:aa ah.rep 4 g aA v1.ab)(aG:aa al.rep 3 g az v1.aI)(bj:aa ah.rep 4 g bf v2.ab)(bz:aa al.rep 3 g bg v2.aI)(vq:Sub qE g)(xB:∀{ar:Int}{g2 h2:AH},kA ar=some r→Sub qE g2→Sep c g2 h2 [.bx av (ZZA v1 aA az),.bx aK (ZZA v2 bf bg)]→k3 (vi ar) h2)(H:pV c R r):aan w0 E R (ak av 0) (vi y4) (ak aK 0) k3 h:=by
 unfold aan;unfold Vz at M;refine aQ.2 (S.aP 0 rfl rfl ?_);obtain⟨rv,Bm,M⟩:=bind_some M;refine aa.idx aG Bm (fun aB5 aB6 vs aB7 Gt rp=>?_);cases rp;refine S.iX Gt rfl (by decide) (aQ.2 (S.aP 1 rfl rfl ?_));obtain⟨sB,Bd,M⟩:=bind_some M;refine aa.idx bz Bd (fun aB8 aB9 vs aKr aCa rp=>?_);cases rp;refine S.iX aCa rfl (by decide) ?_;refine(aeG (C9 (C9 (C9 aeF)))).2 ?_;refine bR (fun hc=>?_) (fun hc=>?_)
 · have M:=aV hc M;cases M;exact H _ _  S.bO
 · have M:=aX hc M;exact aB3 M S aH aG bj bz vq xB H
theorem aCb {w0 c g h E R r N}   (M:ae5 N  =some r)(S:Sep c g h [])   (H:pV c R r):aal w0 E R  h:=by
 unfold aal;unfold ae5 at M;cases M;exact H _ _  S.bO
theorem aCc {w0 c g h E R r N v1 v2 y4 av aA az aK bf bg k3 kA qE}(M:Gr N v1 v2 y4 kA=some r)(S:Sep c g h [.bx av (ZZA v1 aA az),.bx aK (ZZA v2 bf bg)])(aH:aa ah.rep 4 g aA v1.ab)(aG:aa al.rep 3 g az v1.aI)(bj:aa ah.rep 4 g bf v2.ab)(bz:aa al.rep 3 g bg v2.aI)(vq:Sub qE g)(xB:∀{ar:Int}{g2 h2:AH},kA ar=some r→Sub qE g2→Sep c g2 h2 [.bx av (ZZA v1 aA az),.bx aK (ZZA v2 bf bg)]→k3 (vi ar) h2)(H:pV c R r):Sk w0 E R (ak av 0) (ak aK 0) k3 (vi y4) h:=by
 unfold Sk;unfold Gr at M;refine aQ.2 (S.aP 0 rfl rfl (aG.len (fj.2 (bR (fun hc=>?_) (fun hc=>?_)))))
 · have M:=aV hc M;exact aB4 M S aH aG bj bz vq xB H
 · have M:=aX hc M;have S:=S.t0;exact aCb M S  H
theorem aCd {w0 c E R r N v1 v2 av aA az aK bf bg}   (H:pV c R r):∀(n:Nat){y4:Int}{g h:AH},Jo N v1 v2 n y4=some r→Sep c g h [.bx av (ZZA v1 aA az),.bx aK (ZZA v2 bf bg)]→aa ah.rep 4 g aA v1.ab→aa al.rep 3 g az v1.aI→aa ah.rep 4 g bf v2.ab→aa al.rep 3 g bg v2.aI→gg (α:=Z) (fun k a=>Sk w0 E R (ak av 0) (ak aK 0) k a) n (vi y4) h:=by
 intro n
 induction n with
 | zero=>
  intro y4  g h M S aH aG bj bz ;unfold Jo at M;cases M
 | succ n ih=>
  intro y4  g h M S aH aG bj bz ;exact aCc M S aH aG bj bz  (Sub.refl g) (fun M2 sub S2  =>ih M2 S2 (aa.mono aH ah.mono sub) (aa.mono aG al.mono sub) (aa.mono bj ah.mono sub) (aa.mono bz al.mono sub)) H
theorem aCe {w0 c g h E R r N v1 v2 av aA az aK bf bg}  (M:ae6 N v1 v2=some r)(S:Sep c g h [.bx av (ZZA v1 aA az),.bx aK (ZZA v2 bf bg)])(aH:aa ah.rep 4 g aA v1.ab)(aG:aa al.rep 3 g az v1.aI)(bj:aa ah.rep 4 g bf v2.ab)(bz:aa al.rep 3 g bg v2.aI)  (H:pV c R r):aao w0 E R (ak av 0) (ak aK 0) h:=by
 unfold aao;unfold ae6 at M;exact⟨N,aCd  H _ M S aH aG bj bz⟩
theorem aCf {w0 c g h E R r N v1 v2 jC av aA az aK bf bg tk tZ Dh}(M:Gs N v1 v2 jC tZ=some r)(S:Sep c g h [.bx av (ZZA v1 aA az),.bx aK (ZZA v2 bf bg)])(aH:aa ah.rep 4 g aA v1.ab)(aG:aa al.rep 3 g az v1.aI)(bj:aa ah.rep 4 g bf v2.ab)(bz:aa al.rep 3 g bg v2.aI)(N8:Sub Dh g)(N9:∀{ar:Int}{g2 h2:AH},tZ ar=some r→Sub Dh g2→Sep c g2 h2 [.bx av (ZZA v1 aA az),.bx aK (ZZA v2 bf bg)]→tk (vi ar) h2)(H:pV c R r):Sm w0 E R (ak av 0) (ak aK 0) tk (vi jC) h:=by
 unfold Sm;unfold Gs at M;refine aQ.2 (S.aP 0 rfl rfl (aH.len (fj.2 (bR (fun hc=>?_) (fun hc=>?_)))))
 · have M:=aV hc M;exact aB0 M S aH aG bj bz N8 N9 H
 · have M:=aX hc M;exact aCe M S aH aG bj bz H
theorem aCg {w0 c E R r N v1 v2 av aA az aK bf bg}   (H:pV c R r):∀(n:Nat){jC:Int}{g h:AH},N0 N v1 v2 n jC=some r→Sep c g h [.bx av (ZZA v1 aA az),.bx aK (ZZA v2 bf bg)]→aa ah.rep 4 g aA v1.ab→aa al.rep 3 g az v1.aI→aa ah.rep 4 g bf v2.ab→aa al.rep 3 g bg v2.aI→gg (α:=Z) (fun k a=>Sm w0 E R (ak av 0) (ak aK 0) k a) n (vi jC) h:=by
 intro n
 induction n with
 | zero=>
  intro jC  g h M S aH aG bj bz ;unfold N0 at M;cases M
 | succ n ih=>
  intro jC  g h M S aH aG bj bz ;exact aCf M S aH aG bj bz  (Sub.refl g) (fun M2 sub S2  =>ih M2 S2 (aa.mono aH ah.mono sub) (aa.mono aG al.mono sub) (aa.mono bj ah.mono sub) (aa.mono bz al.mono sub)) H
theorem aCh {w0 c g h E R r N v1 v2 av aA az aK bf bg}  (M:VA N v1 v2=some r)(S:Sep c g h [.bx av (ZZA v1 aA az),.bx aK (ZZA v2 bf bg)])(aH:aa ah.rep 4 g aA v1.ab)(aG:aa al.rep 3 g az v1.aI)(bj:aa ah.rep 4 g bf v2.ab)(bz:aa al.rep 3 g bg v2.aI)  (H:pV c R r):aar w0 E R (ak av 0) (ak aK 0) h:=by
 unfold aar;unfold VA at M;exact⟨N,aCg  H _ M S aH aG bj bz⟩
theorem ao7 {w0 c g h E R r N v1 v2 my av aA az aK bf bg}  (M:N2 N v1 v2 my=some r)(S:Sep c g h [.bx av (ZZA v1 aA az),.bx aK (ZZA v2 bf bg)])(aH:aa ah.rep 4 g aA v1.ab)(aG:aa al.rep 3 g az v1.aI)(bj:aa ah.rep 4 g bf v2.ab)(bz:aa al.rep 3 g bg v2.aI)  (H:pV c R r):aas w0 E R (ak av 0) (ak aK 0) (.bool my) h:=by
 unfold aas;unfold N2 at M;refine bR (fun hc=>?_) (fun hc=>?_)
 · have M:=aV hc M;cases M;exact H _ _  S.bO
 · have M:=aX hc M;exact aCh M S aH aG bj bz H
theorem ao8 {w0 c g h E R r N v1 v2 ie av aA az aK bf bg}  (M:N3 N v1 v2 ie=some r)(S:Sep c g h [.bx av (ZZA v1 aA az),.bx aK (ZZA v2 bf bg)])(aH:aa ah.rep 4 g aA v1.ab)(aG:aa al.rep 3 g az v1.aI)(bj:aa ah.rep 4 g bf v2.ab)(bz:aa al.rep 3 g bg v2.aI)  (H:pV c R r):aat w0 E R (ak av 0) (ak aK 0) (.bool ie) h:=by
 unfold aat;unfold N3 at M;cases hc:ie
 · have M:=aX hc M;refine au rfl (aQ.2 (au rfl (S.aP 0 rfl rfl (au rfl (aG.len (au rfl (aQ.2 (au rfl (S.aP 1 rfl rfl (au rfl (bz.len (au rfl (gb.2 (aW.2 ?_))))))))))))));exact ao7 M S aH aG bj bz H
 · have M:=aV hc M;repeat refine ax (by decide) ?_;refine aW.2 ?_;exact ao7 M S aH aG bj bz H
theorem ao9 {w0 c g h E R r N v1 v2 iv av aA az aK bf bg}  (M:N4 N v1 v2 iv=some r)(S:Sep c g h [.bx av (ZZA v1 aA az),.bx aK (ZZA v2 bf bg)])(aH:aa ah.rep 4 g aA v1.ab)(aG:aa al.rep 3 g az v1.aI)(bj:aa ah.rep 4 g bf v2.ab)(bz:aa al.rep 3 g bg v2.aI)  (H:pV c R r):aau w0 E R (ak av 0) (ak aK 0) (.bool iv) h:=by
 unfold aau;unfold N4 at M;cases hc:iv
 · have M:=aX hc M;refine au rfl (aQ.2 (au rfl (S.aP 0 rfl rfl (au rfl (aH.len (au rfl (aQ.2 (au rfl (S.aP 1 rfl rfl (au rfl (bj.len (au rfl (gb.2 (aW.2 ?_))))))))))))));exact ao8 M S aH aG bj bz H
 · have M:=aV hc M;repeat refine ax (by decide) ?_;refine aW.2 ?_;exact ao8 M S aH aG bj bz H
theorem apa {w0 c g h E R r N v1 v2 dB av aA az aK bf bg}  (M:N5 N v1 v2 dB=some r)(S:Sep c g h [.bx av (ZZA v1 aA az),.bx aK (ZZA v2 bf bg)])(aH:aa ah.rep 4 g aA v1.ab)(aG:aa al.rep 3 g az v1.aI)(bj:aa ah.rep 4 g bf v2.ab)(bz:aa al.rep 3 g bg v2.aI)  (H:pV c R r):aav w0 E R (ak av 0) (ak aK 0) (.bool dB) h:=by
 unfold aav;unfold N5 at M;cases hc:dB
 · have M:=aX hc M;refine au rfl (aQ.2 (au rfl (S.aP 0 rfl rfl (au rfl (aQ.2 (au rfl (S.aP 1 rfl rfl (au rfl (gb.2 (aW.2 ?_))))))))));exact ao9 M S aH aG bj bz H
 · have M:=aV hc M;repeat refine ax (by decide) ?_;refine aW.2 ?_;exact ao9 M S aH aG bj bz H
theorem apb {w0 c g h E R r N v1 v2 v51 av aA az aK bf bg}  (M:N6 N v1 v2 v51=some r)(S:Sep c g h [.bx av (ZZA v1 aA az),.bx aK (ZZA v2 bf bg)])(aH:aa ah.rep 4 g aA v1.ab)(aG:aa al.rep 3 g az v1.aI)(bj:aa ah.rep 4 g bf v2.ab)(bz:aa al.rep 3 g bg v2.aI)  (H:pV c R r):aaw w0 E R (ak av 0) (ak aK 0) (.bool v51) h:=by
 unfold aaw;unfold N6 at M;cases hc:v51
 · have M:=aX hc M;refine au rfl (aQ.2 (au rfl (S.aP 0 rfl rfl (au rfl (aQ.2 (au rfl (S.aP 1 rfl rfl (au rfl (gb.2 (aW.2 ?_))))))))));exact apa M S aH aG bj bz H
 · have M:=aV hc M;repeat refine ax (by decide) ?_;refine aW.2 ?_;exact apa M S aH aG bj bz H
theorem apc {w0 c g h E R r N v1 v2 gZ av aA az aK bf bg}  (M:N7 N v1 v2 gZ=some r)(S:Sep c g h [.bx av (ZZA v1 aA az),.bx aK (ZZA v2 bf bg)])(aH:aa ah.rep 4 g aA v1.ab)(aG:aa al.rep 3 g az v1.aI)(bj:aa ah.rep 4 g bf v2.ab)(bz:aa al.rep 3 g bg v2.aI)  (H:pV c R r):aax w0 E R (ak av 0) (ak aK 0) (.bool gZ) h:=by
 unfold aax;unfold N7 at M;cases hc:gZ
 · have M:=aX hc M;refine au rfl (aQ.2 (au rfl (S.aP 0 rfl rfl (au rfl (aQ.2 (au rfl (S.aP 1 rfl rfl (au rfl (gb.2 (aW.2 ?_))))))))));exact apb M S aH aG bj bz H
 · have M:=aV hc M;repeat refine ax (by decide) ?_;refine aW.2 ?_;exact apb M S aH aG bj bz H
theorem aAJ {w0 g h Q r N x0 x1 cw cx kB kC}(M:Ng N x0 x1=some r)(sg:Sub g h)(ok:h.Ok)(cg:aa ah.rep 4 g cw x0.ab)(cz:aa al.rep 3 g cx x0.aI)(lG:aa ah.rep 4 g kB x1.ab)(nb:aa al.rep 3 g kC x1.aI)(H:pV ⟨g,h,[]⟩ (fun v=>Q (.ret v)) r):WF PP w0 aay [(.agg ⟨(ZZA x0 cw cx)⟩),(.agg ⟨(ZZA x1 kB kC)⟩)] h Q:=by
 refine at7 _ _ ?_;have S:=Sep.start sg ok;unfold aiP;unfold Ng at M;refine S.box (ZZA x0 cw cx) rfl (ag rfl (ag rfl (ag rfl (ag rfl (ag rfl (ag cg.one (ag cz.one rfl))))))) (fun jN h S=>?_);refine S.box (ZZA x1 kB kC) rfl (ag rfl (ag rfl (ag rfl (ag rfl (ag rfl (ag lG.one (ag nb.one rfl))))))) (fun sE h S=>?_);refine aQ.2 (S.aP 1 rfl rfl (aQ.2 (S.aP 0 rfl rfl (ac7.2 ?_))));cases hc:(!decide (x0.aC=x1.aC))
 · have M:=aX hc M;refine au rfl (aQ.2 (au rfl (S.aP 1 rfl rfl (au rfl (aQ.2 (au rfl (S.aP 0 rfl rfl (au rfl (ac7.2 (aW.2 ?_))))))))));have S:=S.f1;exact apc M S cg cz lG nb H
 · have M:=aV hc M;repeat refine ax (by decide) ?_;refine aW.2 ?_;have S:=S.f1;exact apc M S cg cz lG nb H
def Jp (v1:ae) (dr:Bool)  :Option Bool:=
 bif dr then(
 bif (decide ((v1.aI.length:Int)≤8))then(
 some true)else(
 bif (decide (40<(v1.aI.length:Int)))then(
 some (decide ((v1.aI.length:Int)≤60)))else(
 some false)))else(
 some false)
def MK (x0:ae):Option Bool:=
 bif (decide ((x0.ab.length:Int)≤40))then(
 Jp x0 true)else(
 bif (decide (600<(x0.ab.length:Int)))then(
 Jp x0 (decide ((x0.ab.length:Int)≤700)))else(
 Jp x0 false))
abbrev apd (c:Cx) (R:ZZF) (r:Bool):Prop:=∀(g' h':AH),Sep c g' h' []→R (.bool r) h'
theorem aff {w0 c g h E R r v1 dr av aA az}  (M:Jp v1 dr=some r)(S:Sep c g h [.bx av (ZZA v1 aA az)])(aH:aa ah.rep 4 g aA v1.ab)(aG:aa al.rep 3 g az v1.aI)  (H:apd c R r):aaz w0 E R (ak av 0) (.bool dr) h:=by
 unfold aaz;unfold Jp at M;cases hc:dr
 · have M:=aX hc M;refine ax (by decide) ?_;refine ax (by decide) ?_;refine ax (by decide) ?_;refine ax (by decide) ?_;refine ax (by decide) ?_;refine dQ ?_;refine dQ ?_;refine dQ ?_;refine dQ ?_;refine dQ ?_;refine dQ ?_;refine dQ ?_;refine dQ ?_;refine dQ ?_;refine dQ ?_;refine ax (by decide) ?_;refine aW.2 ?_;cases M;exact H _ _  S.bO
 · have M:=aV hc M;refine au rfl ?_;refine aQ.2 ?_;refine au rfl ?_;refine S.aP 0 rfl rfl ?_;refine au rfl ?_;refine aG.len ?_;refine au rfl ?_;refine o8.2 ?_;refine au rfl ?_;cases hc:(decide ((v1.aI.length:Int)≤8))
   · have M:=aX hc M;refine au rfl ?_;refine aQ.2 ?_;refine au rfl ?_;refine S.aP 0 rfl rfl ?_;refine au rfl ?_;refine aG.len ?_;refine au rfl ?_;refine kT.2 ?_;refine au rfl ?_;cases hc:(decide (40<(v1.aI.length:Int)))
     · have M:=aX hc M;refine ax (by decide) ?_;refine ax (by decide) ?_;refine ax (by decide) ?_;refine ax (by decide) ?_;refine au rfl ?_;refine aW.2 ?_;refine au rfl ?_;refine aW.2 ?_;refine aW.2 ?_;cases M;exact H _ _  S.bO
     · have M:=aV hc M;refine au rfl ?_;refine aQ.2 ?_;refine au rfl ?_;refine S.aP 0 rfl rfl ?_;refine au rfl ?_;refine aG.len ?_;refine au rfl ?_;refine o8.2 ?_;refine au rfl ?_;refine aW.2 ?_;refine au rfl ?_;refine aW.2 ?_;refine aW.2 ?_;cases M;exact H _ _  S.bO
   · have M:=aV hc M;refine ax (by decide) ?_;refine ax (by decide) ?_;refine ax (by decide) ?_;refine ax (by decide) ?_;refine ax (by decide) ?_;refine dQ ?_;refine dQ ?_;refine dQ ?_;refine dQ ?_;refine ax (by decide) ?_;refine au rfl ?_;refine aW.2 ?_;refine aW.2 ?_;cases M;exact H _ _  S.bO
theorem azE {w0 g h Q r x0 cw cx}(M:MK x0=some r)(sg:Sub g h)(ok:h.Ok)(cg:aa ah.rep 4 g cw x0.ab)(cz:aa al.rep 3 g cx x0.aI)(H:apd ⟨g,h,[]⟩ (fun v=>Q (.ret v)) r):WF PP w0 aaA [(.agg ⟨(ZZA x0 cw cx)⟩)] h Q:=by
 refine aua _ ?_;have S:=Sep.start sg ok;unfold aiQ;unfold MK at M;refine S.box (ZZA x0 cw cx) rfl (ag rfl (ag rfl (ag rfl (ag rfl (ag rfl (ag cg.one (ag cz.one rfl))))))) (fun jN h S=>?_);refine aQ.2 ?_;refine S.aP 0 rfl rfl ?_;refine cg.len ?_;refine o8.2 ?_;cases hc:(decide ((x0.ab.length:Int)≤40))
 · have M:=aX hc M;refine au rfl ?_;refine aQ.2 ?_;refine au rfl ?_;refine S.aP 0 rfl rfl ?_;refine au rfl ?_;refine cg.len ?_;refine au rfl ?_;refine kT.2 ?_;refine au rfl ?_;cases hc:(decide (600<(x0.ab.length:Int)))
   · have M:=aX hc M;refine ax (by decide) ?_;refine ax (by decide) ?_;refine ax (by decide) ?_;refine ax (by decide) ?_;refine au rfl ?_;refine aW.2 ?_;refine aW.2 ?_;exact aff M S cg cz H
   · have M:=aV hc M;refine au rfl ?_;refine aQ.2 ?_;refine au rfl ?_;refine S.aP 0 rfl rfl ?_;refine au rfl ?_;refine cg.len ?_;refine au rfl ?_;refine o8.2 ?_;refine au rfl ?_;refine aW.2 ?_;refine aW.2 ?_;exact aff M S cg cz H
 · have M:=aV hc M;refine ax (by decide) ?_;refine ax (by decide) ?_;refine ax (by decide) ?_;refine ax (by decide) ?_;refine ax (by decide) ?_;refine dQ ?_;refine dQ ?_;refine dQ ?_;refine dQ ?_;refine ax (by decide) ?_;refine aW.2 ?_;exact aff M S cg cz H
end
end Go.Ve.T
namespace Go.Ve
open Go.RowKit
theorem auh {h R b o n cap}(K:R (.bool false) h):WP (.rT 1 false) [gD b o n cap,bJ] h R:=(aiX (nk:=1) (b:=false) rfl rfl).2 K
theorem aui {h R}(K:R (.bool true) h):WP (.rT 1 false) [bJ,bJ] h R:=(aiX (nk:=1) (b:=true) rfl rfl).2 K
end Go.Ve
namespace Go.Ve.T
open Go.Ve Go.Proofs
noncomputable section
set_option maxRecDepth 10000
section
variable {w0:World}{g h:AH}{Q:CR→AH→Prop}
def abc (x0:ZZD):Option (ZZD):=gu (decide (x0.length≤1048576)) (some x0)
theorem auj {r}(x0:ZZD)(cA:Z)(sg:Sub g h)(ok:h.Ok)(cZ:aa (rI .i64) 1 g cA x0)(M:abc x0=some r)
 (H:∀(g' h':AH) (w1:Z) (KT:List (ZZE)),Sep ⟨g,h,[]⟩ g' h' [.sl 3 1 w1 KT]→aw ((rI .i64) g') KT r→Q (.ret w1) h'):WF PP w0 ZJ [cA] h Q:=by
 obtain⟨hb,M⟩:=nE M;have e:=zaL M;subst e;have S:=Sep.start sg ok;obtain⟨ls0,X,A⟩:=cZ;refine atU _ ?_;unfold aiE;cases X with
 | nil=>
  have hx:x0=[]:=List.length_eq_zero_iff.1 (by have:=A.1;simpa using this.symm);subst hx;refine aui ?_;exact yg (H _ _ _ _ (S.B1 3 1) (aw.nil (R:=(rI .i64) g)))
 | mk b o m cap _ hn hc hs hr=>
  refine auh (qT ?_);unfold aiD;refine S.tp (sz:=1) [] rfl rfl (by decide) tq rfl (fun v h S=>?_);refine S.app (jJ.mono S.sub (jJ.mk b o m cap _ hn hc hs hr)) (by rw [A.1];simpa using hb) (by decide) rfl (nF (rY .i64) A) rfl (fun v h S=>?_);exact H _ _ _ _ S A
end
end
end Go.Ve.T
namespace Go.Ve.T
open Go.Ve Go.Proofs
noncomputable section
set_option maxRecDepth 10000
def OA (x0:al) (x1:Int):Option Bool:=
 bif (decide (x0.dk≤x1))then(
 some (decide (x1<x0.dO)))else(
 some false)
abbrev aC0 (c:Cx) (R:ZZF) (r:Bool):Prop:=∀(g' h':AH),Sep c g' h' []→R (.bool r) h'
theorem aC1 {w0 g h Q r x0 x1 oy}(M:OA x0 x1=some r)(sg:Sub g h)(ok:h.Ok)(qD:g.bH oy 0 [vi x1])(H:aC0 ⟨g,h,[]⟩ (fun v=>Q (.ret v)) r):WF PP w0 Rg [(.agg ⟨[vi x0.dk,vi x0.dO,vi x0.bG]⟩),ak oy 0] h Q:=by
 refine atk _ _ ?_;have S:=Sep.start sg ok;unfold ah7;unfold OA at M;refine S.box [vi x0.dk,vi x0.dO,vi x0.bG] rfl (ag rfl (ag rfl (ag rfl rfl))) (fun jN h S=>?_);refine aQ.2 (S.aP 0 rfl rfl (S.dK (qD 0 _ rfl) (o8.2 ?_)));cases hc:(decide (x0.dk≤x1))
 · have M:=aX hc M;repeat refine ax (by decide) ?_;refine aW.2 ?_;cases M;exact H _ _  S.bO
 · have M:=aV hc M;refine au rfl (S.dK (qD 0 _ rfl) (au rfl (aQ.2 (au rfl (S.aP 0 rfl rfl (au rfl (fj.2 (aW.2 ?_))))))));cases M;exact H _ _  S.bO
def OB (N:Nat) (x0:ae) (x1:Int):Option Int:=
(Jh N x0.aI (fun a0=>OA a0 x1)).bind fun jw=>
 some jw
abbrev aC2 (c:Cx) (R:ZZF) (r:Int):Prop:=∀(g' h':AH),Sep c g' h' []→R (vi r) h'
theorem aC3 {w0 g h Q r N x0 x1 cw cx}(M:OB N x0 x1=some r)(sg:Sub g h)(ok:h.Ok)(cg:aa ah.rep 4 g cw x0.ab)(cz:aa al.rep 3 g cx x0.aI)(H:aC2 ⟨g,h,[]⟩ (fun v=>Q (.ret v)) r):WF PP w0 YL [(.agg ⟨(ZZA x0 cw cx)⟩),vi x1] h Q:=by
 refine ato _ _ ?_;have S:=Sep.start sg ok;unfold ah9;unfold OB at M;refine S.box (ZZA x0 cw cx) rfl (ag rfl (ag rfl (ag rfl (ag rfl (ag rfl (ag cg.one (ag cz.one rfl))))))) (fun jN h S=>?_);refine S.box [vi x1] rfl (ag rfl rfl) (fun sE h S=>?_);refine aQ.2 (S.aP 1 rfl rfl ?_);refine(Ii (by simp)).2 ?_;obtain⟨g,sg,S,r_3⟩:=S.vk;have cg:=aa.mono cg ah.mono sg;have cz:=aa.mono cz al.mono sg;have afA:xw w0 g (.func (.func Rg) ⟨[]⟩ ⟨[ak sE 0]⟩) (fun a0=>OA a0 x1):=⟨rfl,fun a0 r E K g2 h2 s1 s2 s3  m1 k1=>aC1 m1 s2 s3 (Sub.bH s1 r_3) k1⟩;obtain⟨jw,qB,M⟩:=bind_some M;refine aoU qB S.sub S.ok cz afA (fun _ h  S1  =>?_);have S:=S.dz S1;cases M;exact H _ _  S.bO
def V1   :Option Int:=
 some 0
def Jy (y8:Bool)  :Option Int:=
 bif y8 then(
 some (-1))else(
 V1)
def OC (v1:ah) (x1:Int) (cD:Bool)  :Option Int:=
 bif cD then(
 Jy cD)else(
 bif (decide (v1.aJ=32))then(
 Jy (decide (x1=1)))else(
 Jy false))
def OD (v1:ah) (x1:Int) (v7:Bool)  :Option Int:=
 bif v7 then(
 some 1)else(
 bif (decide (v1.aJ=31))then(
 OC v1 x1 (decide (x1=0)))else(
 OC v1 x1 false))
def OE (x0:ah) (x1:Int):Option Int:=
 bif (decide (x0.aJ=30))then(
 OD x0 x1 (decide (x1=0)))else(
 OD x0 x1 false)
abbrev OF (c:Cx) (R:ZZF) (r:Int):Prop:=∀(g' h':AH),Sep c g' h' []→R (vi r) h'
theorem aC4 {w0 c g h E R r}   (M:V1  =some r)(S:Sep c g h [])   (H:OF c R r):YU w0 E R  h:=by
 unfold YU;unfold V1 at M;cases M;exact H _ _  S.bO
theorem afB {w0 c g h E R r y8}  (M:Jy y8=some r)(S:Sep c g h [])   (H:OF c R r):Rk w0 E R (.bool y8) h:=by
 unfold Rk;unfold Jy at M;refine bR (fun hc=>?_) (fun hc=>?_)
 · have M:=aV hc M;cases M;exact H _ _  S.bO
 · have M:=aX hc M;exact aC4 M S  H
theorem apH {w0 c g h E R r v1 x1 cD av}  (M:OC v1 x1 cD=some r)(S:Sep c g h [.bx av (ZZC v1)])   (H:OF c R r):YV w0 E R (ak av 0) (vi x1) (.bool cD) h:=by
 unfold YV;unfold OC at M;refine bR (fun hc=>?_) (fun hc=>?_)
 · have M:=aV hc M;have S:=S.t0;exact afB M S  H
 · have M:=aX hc M;refine aQ.2 (S.aP 0 rfl rfl (gr.2 ?_));cases hc:(decide (v1.aJ=32))
   · have M:=aX hc M;repeat refine ax (by decide) ?_;refine aW.2 ?_;have S:=S.t0;exact afB M S  H
   · have M:=aV hc M;refine au rfl (au rfl (gr.2 (aW.2 ?_)));have S:=S.t0;exact afB M S  H
theorem apI {w0 c g h E R r v1 x1 v7 av}  (M:OD v1 x1 v7=some r)(S:Sep c g h [.bx av (ZZC v1)])   (H:OF c R r):YW w0 E R (ak av 0) (vi x1) (.bool v7) h:=by
 unfold YW;unfold OD at M;refine bR (fun hc=>?_) (fun hc=>?_)
 · have M:=aV hc M;cases M;exact H _ _  S.bO
 · have M:=aX hc M;refine aQ.2 (S.aP 0 rfl rfl (gr.2 ?_));cases hc:(decide (v1.aJ=31))
   · have M:=aX hc M;repeat refine ax (by decide) ?_;refine aW.2 ?_;exact apH M S  H
   · have M:=aV hc M;refine au rfl (au rfl (gr.2 (aW.2 ?_)));exact apH M S  H
theorem aC5 {w0 g h Q r x0 x1}(M:OE x0 x1=some r)(sg:Sub g h)(ok:h.Ok)  (H:OF ⟨g,h,[]⟩ (fun v=>Q (.ret v)) r):WF PP w0 YX [(.agg ⟨(ZZC x0)⟩),vi x1] h Q:=by
 refine atA _ _ ?_;have S:=Sep.start sg ok;unfold air;unfold OE at M;refine S.box (ZZC x0) rfl (ag rfl (ag rfl (ag rfl (ag rfl rfl)))) (fun jN h S=>?_);refine aQ.2 (S.aP 0 rfl rfl (gr.2 ?_));cases hc:(decide (x0.aJ=30))
 · have M:=aX hc M;repeat refine ax (by decide) ?_;refine aW.2 ?_;exact apI M S  H
 · have M:=aV hc M;refine au rfl (au rfl (gr.2 (aW.2 ?_)));exact apI M S  H
def OG (N:Nat) (ch:Int) (eC:ZZD) (nT:ah) (gz:(ZZD)→Int→Option ((ZZD))):Option ((ZZD)):=
 gz eC (bN .i64 (ch+1))
def OH (N:Nat) (v1:ah) (aq:Int) (dR:ZZD) (ch:Int) (v28:Bool) (gz:(ZZD)→Int→Option ((ZZD))):Option ((ZZD)):=
 bif v28 then(
(Da v1).bind fun mn=>
(ix [mn.e0,mn.e1,mn.e2] (bN .i64 (aq-1))).bind fun kD=>
 gu (decide (dR.length+[kD].length≤1048576)) (
 OG N ch (dR++[kD]) v1 gz))else(
 OG N ch dR v1 gz)
def OI (N:Nat) (v1:ah) (aq:Int) (dR:ZZD) (ch:Int) (v21:Bool) (gz:(ZZD)→Int→Option ((ZZD))):Option ((ZZD)):=
 bif v21 then(
(Da v1).bind fun eR=>
(ix [eR.e0,eR.e1,eR.e2] (bN .i64 (aq-1))).bind fun fD=>
 OH N v1 aq dR ch (!decide (fD=(-1))) gz)else(
 OH N v1 aq dR ch false gz)
def GI (N:Nat) (v11:Dp) (ch:Int) (v6:Bool) (v1:ah) (dR:ZZD) (gz:(ZZD)→Int→Option ((ZZD))):Option ((ZZD)):=
(ix [v11.e0,v11.e1] ch).bind fun jw=>
 bif v6 then(
 OI N v1 jw dR ch (decide (0<jw)) gz)else(
 OI N v1 jw dR ch false gz)
def afC (N:Nat) (y9:ZZD)  :Option ((ZZD)):=
 some y9
def afD (N:Nat) (v11:Dp) (v6:Bool) (v1:ah) (dR:ZZD) (ch:Int) (gz:(ZZD)→Int→Option ((ZZD))):Option ((ZZD)):=
 bif (decide (ch<2))then(
 GI N v11 ch v6 v1 dR gz)else(
 afC N dR)
def OJ (N:Nat) (v11:Dp) (v6:Bool) (v1:ah)  :Nat→(ZZD)→Int→Option ((ZZD)) | 0,_,_=>none | n+1,dR,ch=>afD N v11 v6 v1 dR ch  (fun ar cd=>OJ N v11 v6 v1 n ar cd)
def OK (N:Nat) (x0:ah):Option ((ZZD)):=
(Db x0.aJ).bind fun cv=>
 OJ N cv.1.dF cv.2 x0 N ([]:ZZD) 0
abbrev Dq (c:Cx) (R:ZZF) (r:(ZZD)):Prop:=∀(g' h':AH) (w1:Z),Sep c g' h' []→aa (rI .i64) 1 g' w1 r→R w1 h'
theorem apJ {w0 c g h E R r N ch eC nT NG NH NI gL gz mK}(M:OG N ch eC nT gz=some r)(S:Sep c g h [.sl 3 1 NG NH,.bx NI (ZZC nT)])(aeO:aw ((rI .i64) g) NH eC)(pc:Sub mK g)(pe:∀{ar:ZZD}{ft:Z}{fu:List (ZZE)}{cd:Int}{g2 h2:AH},gz ar cd=some r→Sub mK g2→Sep c g2 h2 [.bx NI (ZZC nT),.sl 3 1 ft fu]→aw ((rI .i64) g2) fu ar→gL ft (vi cd) h2)(H:Dq c R r):Sa w0 E R (vi ch) gL NG h:=by
 unfold Sa;unfold OG at M;refine gE.2 ?_;have S:=S.f1;exact pe M pc S aeO
theorem apK {w0 c g h E R r N v1 aq dR ch v28 av ln kz gL gz mK}(M:OH N v1 aq dR ch v28 gz=some r)(S:Sep c g h [.bx av (ZZC v1),.sl 3 1 ln kz])(lq:aw ((rI .i64) g) kz dR)(pc:Sub mK g)(pe:∀{ar:ZZD}{ft:Z}{fu:List (ZZE)}{cd:Int}{g2 h2:AH},gz ar cd=some r→Sub mK g2→Sep c g2 h2 [.bx av (ZZC v1),.sl 3 1 ft fu]→aw ((rI .i64) g2) fu ar→gL ft (vi cd) h2)(H:Dq c R r):Z1 w0 E R (ak av 0) (vi aq) ln (vi ch) gL (.bool v28) h:=by
 unfold Z1;unfold OH at M;refine bR (fun hc=>?_) (fun hc=>?_)
 · have M:=aV hc M;refine S.eA (ZZC v1) 0 rfl rfl rfl (by decide) ?_;obtain⟨mn,wv,M⟩:=bind_some M;refine NF wv S.sub S.ok (fun _ h  S1  =>?_);have S:=S.dz S1;refine lB.2 ?_;obtain⟨kD,vt,M⟩:=bind_some M;refine Gd [mn.e0,mn.e1,mn.e2] (fun q=>(vi q)) rfl vt (S.tp [[vi kD]] (rn (m:=[vi kD]) (l2:=[vi kD]) rfl rfl (zaa rfl) rfl rfl) rfl (by decide) (vn rfl tq) (ag rfl rfl) (fun aC6 h S=>?_));have OL:aw ((rI .i64) g) [[vi kD]] [kD]:=(aw.push aw.nil (show(rI .i64) g [vi kD] kD from rfl));have S:=S.f2;obtain⟨aC7,M⟩:=nE M;refine S.app (S.rd 1 rfl) (by rw [lq.1,OL.1];exact aC7) (by decide) rfl (nF (rY .i64) OL) (nF (rY .i64) lq) (fun aC8 h S=>?_);have aC9:aw ((rI .i64) g) (kz++[[vi kD]]) (dR++[kD]):=aw.append lq OL;have S:=S.f2.f1.t2;exact apJ M S aC9 pc pe H
 · have M:=aX hc M;have S:=S.f1;exact apJ M S lq pc pe H
theorem apL {w0 c g h E R r N v1 aq dR ch v21 av ln kz gL gz mK}(M:OI N v1 aq dR ch v21 gz=some r)(S:Sep c g h [.bx av (ZZC v1),.sl 3 1 ln kz])(lq:aw ((rI .i64) g) kz dR)(pc:Sub mK g)(pe:∀{ar:ZZD}{ft:Z}{fu:List (ZZE)}{cd:Int}{g2 h2:AH},gz ar cd=some r→Sub mK g2→Sep c g2 h2 [.bx av (ZZC v1),.sl 3 1 ft fu]→aw ((rI .i64) g2) fu ar→gL ft (vi cd) h2)(H:Dq c R r):Z2 w0 E R (ak av 0) (vi aq) ln (vi ch) gL (.bool v21) h:=by
 unfold Z2;unfold OI at M;cases hc:v21
 · have M:=aX hc M;repeat refine ax (by decide) ?_;refine aW.2 ?_;exact apK M S lq pc pe H
 · have M:=aV hc M;refine au rfl (S.eA (ZZC v1) 0 rfl rfl rfl (by decide) (au rfl ?_));obtain⟨eR,mL,M⟩:=bind_some M;refine NF mL S.sub S.ok (fun _ h  S1  =>?_);have S:=S.dz S1;refine au rfl (au rfl (lB.2 (au rfl ?_)));obtain⟨fD,qC,M⟩:=bind_some M;refine Gd [eR.e0,eR.e1,eR.e2] (fun q=>(vi q)) rfl qC (au rfl (gb.2 (aW.2 ?_)));exact apK M S lq pc pe H
theorem aDa {w0 c g h E R r N v11 ch v6 v1 dR av ln kz gL gz mK}(M:GI N v11 ch v6 v1 dR gz=some r)(S:Sep c g h [.bx av (ZZC v1),.sl 3 1 ln kz])(lq:aw ((rI .i64) g) kz dR)(pc:Sub mK g)(pe:∀{ar:ZZD}{ft:Z}{fu:List (ZZE)}{cd:Int}{g2 h2:AH},gz ar cd=some r→Sub mK g2→Sep c g2 h2 [.bx av (ZZC v1),.sl 3 1 ft fu]→aw ((rI .i64) g2) fu ar→gL ft (vi cd) h2)(H:Dq c R r):Z3 w0 E R (.agg ⟨[vi v11.e0,vi v11.e1]⟩) (vi ch) (.bool v6) (ak av 0) ln gL h:=by
 unfold Z3;unfold GI at M;obtain⟨jw,qB,M⟩:=bind_some M;refine Gd [v11.e0,v11.e1] (fun q=>(vi q)) rfl qB ?_;cases hc:v6
 · have M:=aX hc M;repeat refine ax (by decide) ?_;refine aW.2 ?_;exact apL M S lq pc pe H
 · have M:=aV hc M;refine au rfl (au rfl (kT.2 (aW.2 ?_)));exact apL M S lq pc pe H
theorem aDb {w0 c g h E R r N y9 Gg NK}  (M:afC N y9=some r)(S:Sep c g h [.sl 3 1 Gg NK])(aeQ:aw ((rI .i64) g) NK y9)  (H:Dq c R r):Z0 w0 E R Gg h:=by
 unfold Z0;unfold afC at M;obtain⟨g,sg,S,aDc⟩:=S.fz aeQ (eD .i64);cases M;exact H _ _ Gg S.bO aDc
theorem aDd {w0 c g h E R r N v11 v6 v1 dR ch av ln kz gL gz mK}(M:afD N v11 v6 v1 dR ch gz=some r)(S:Sep c g h [.bx av (ZZC v1),.sl 3 1 ln kz])(lq:aw ((rI .i64) g) kz dR)(pc:Sub mK g)(pe:∀{ar:ZZD}{ft:Z}{fu:List (ZZE)}{cd:Int}{g2 h2:AH},gz ar cd=some r→Sub mK g2→Sep c g2 h2 [.bx av (ZZC v1),.sl 3 1 ft fu]→aw ((rI .i64) g2) fu ar→gL ft (vi cd) h2)(H:Dq c R r):Sb w0 E R (.agg ⟨[vi v11.e0,vi v11.e1]⟩) (.bool v6) (ak av 0) gL ln (vi ch) h:=by
 unfold Sb;unfold afD at M;refine fj.2 (bR (fun hc=>?_) (fun hc=>?_))
 · have M:=aV hc M;exact aDa M S lq pc pe H
 · have M:=aX hc M;have S:=S.f1.t1;exact aDb M S lq H
theorem aDe {w0 c E R r N v11 v6 v1 av}   (H:Dq c R r):∀(n:Nat){dR:ZZD}{ch:Int}{ln:Z}{kz:List (ZZE)}{g h:AH},OJ N v11 v6 v1 n dR ch=some r→Sep c g h [.bx av (ZZC v1),.sl 3 1 ln kz]→aw ((rI .i64) g) kz dR→gg (α:=Z×Z) (fun k a=>Sb w0 E R (.agg ⟨[vi v11.e0,vi v11.e1]⟩) (.bool v6) (ak av 0) (fun b0 b1=>k (b0,b1)) a.1 a.2) n (ln,(vi ch)) h:=by
 intro n
 induction n with
 | zero=>
  intro dR ch ln kz g h M S lq ;unfold OJ at M;cases M
 | succ n ih=>
  intro dR ch ln kz g h M S lq ;exact aDd M S lq  (Sub.refl g) (fun M2 sub S2 Bk=>ih M2 S2 Bk) H
theorem aDf {w0 g h Q r N x0}(M:OK N x0=some r)(sg:Sub g h)(ok:h.Ok)  (H:Dq ⟨g,h,[]⟩ (fun v=>Q (.ret v)) r):WF PP w0 Z4 [(.agg ⟨(ZZC x0)⟩)] h Q:=by
 refine atX _ ?_;have S:=Sep.start sg ok;unfold aiH;unfold OK at M;refine S.box (ZZC x0) rfl (ag rfl (ag rfl (ag rfl (ag rfl rfl)))) (fun jN h S=>?_);refine aQ.2 (S.aP 0 rfl rfl ?_);obtain⟨cv,nS,M⟩:=bind_some M;refine Gh x0.aJ S.sub S.ok nS (fun _ h  S1  =>?_);have S:=S.dz S1;refine(fk rfl).2 ?_;refine(fk rfl).2 ?_;refine S.alloc (l:=[(.string (⟨⟨[]⟩⟩:ByteArray)),vi 0,vi 0,vi 0,vi 0,vi 0,vi 0,.bool false,.bool false]) (ag rfl (ag rfl (ag rfl (ag rfl (ag rfl (ag rfl (ag rfl (ag rfl (ag rfl rfl))))))))) (fun MV h S=>?_);refine S.cV [.string cv.1.ml,vi cv.1.cL.e0,vi cv.1.cL.e1,vi cv.1.cL.e2,vi cv.1.jx,vi cv.1.dF.e0,vi cv.1.dF.e1,.bool cv.1.jV,.bool cv.1.jP] [.string cv.1.ml,vi cv.1.cL.e0,vi cv.1.cL.e1,vi cv.1.cL.e2,vi cv.1.jx,vi cv.1.dF.e0,vi cv.1.dF.e1,.bool cv.1.jV,.bool cv.1.jP] rfl rfl (ag rfl (ag rfl (ag rfl (ag rfl (ag rfl (ag rfl (ag rfl (ag rfl (ag rfl rfl))))))))) (zaa rfl) rfl (fun h S=>?_);refine aQ.2 (S.eA [vi cv.1.dF.e0,vi cv.1.dF.e1] 0 rfl rfl rfl (by decide) ?_);have S:=S.B1 3 1;have S:=S.f2.t2;exact⟨N,aDe  H _ M S (aw.nil (R:=(rI .i64) g))⟩
def OM (v1:ah) (v7:pq)  :Option Int:=
(Da v1).bind fun jw=>
(ix [jw.e0,jw.e1,jw.e2] (bN .i64 (v7.jx-1))).bind fun eR=>
 some eR
def Jz (x0:ah):Option Int:=
(Db x0.aJ).bind fun cv=>
 bif (decide (cv.1.jx=0))then(
 some (-1))else(
 OM x0 cv.1)
abbrev apM (c:Cx) (R:ZZF) (r:Int):Prop:=∀(g' h':AH),Sep c g' h' []→R (vi r) h'
theorem aDg {w0 c g h E R r v1 v7 av ON}  (M:OM v1 v7=some r)(S:Sep c g h [.bx av (ZZC v1),.bx ON [.string v7.ml,vi v7.cL.e0,vi v7.cL.e1,vi v7.cL.e2,vi v7.jx,vi v7.dF.e0,vi v7.dF.e1,.bool v7.jV,.bool v7.jP]])   (H:apM c R r):Z5 w0 E R (ak av 0) (ak ON 0) h:=by
 unfold Z5;unfold OM at M;refine S.eA (ZZC v1) 0 rfl rfl rfl (by decide) (aQ.2 (S.aP 1 rfl rfl (lB.2 ?_)));obtain⟨jw,qB,M⟩:=bind_some M;refine NF qB S.sub S.ok (fun _ h  S1  =>?_);have S:=S.dz S1;refine⟨?_,?_⟩
 · refine lB.2 ?_;exact Gc
 · refine⟨?_,?_⟩
   · refine S.aP 1 rfl rfl ?_;exact Gc
   · refine⟨?_,?_⟩
     · refine aQ.2 ?_;exact aoP
     · obtain⟨eR,mL,M⟩:=bind_some M;refine Gd [jw.e0,jw.e1,jw.e2] (fun q=>(vi q)) rfl mL ?_;cases M;exact H _ _  S.bO
theorem aDh {w0 g h Q r x0}(M:Jz x0=some r)(sg:Sub g h)(ok:h.Ok)  (H:apM ⟨g,h,[]⟩ (fun v=>Q (.ret v)) r):WF PP w0 Z6 [(.agg ⟨(ZZC x0)⟩)] h Q:=by
 refine at2 _ ?_;have S:=Sep.start sg ok;unfold aiK;unfold Jz at M;refine S.box (ZZC x0) rfl (ag rfl (ag rfl (ag rfl (ag rfl rfl)))) (fun jN h S=>?_);refine aQ.2 (S.aP 0 rfl rfl ?_);obtain⟨cv,nS,M⟩:=bind_some M;refine Gh x0.aJ S.sub S.ok nS (fun _ h  S1  =>?_);have S:=S.dz S1;refine(fk rfl).2 ?_;refine(fk rfl).2 ?_;refine S.alloc (l:=[(.string (⟨⟨[]⟩⟩:ByteArray)),vi 0,vi 0,vi 0,vi 0,vi 0,vi 0,.bool false,.bool false]) (ag rfl (ag rfl (ag rfl (ag rfl (ag rfl (ag rfl (ag rfl (ag rfl (ag rfl rfl))))))))) (fun MV h S=>?_);refine S.cV [.string cv.1.ml,vi cv.1.cL.e0,vi cv.1.cL.e1,vi cv.1.cL.e2,vi cv.1.jx,vi cv.1.dF.e0,vi cv.1.dF.e1,.bool cv.1.jV,.bool cv.1.jP] [.string cv.1.ml,vi cv.1.cL.e0,vi cv.1.cL.e1,vi cv.1.cL.e2,vi cv.1.jx,vi cv.1.dF.e0,vi cv.1.dF.e1,.bool cv.1.jV,.bool cv.1.jP] rfl rfl (ag rfl (ag rfl (ag rfl (ag rfl (ag rfl (ag rfl (ag rfl (ag rfl (ag rfl rfl))))))))) (zaa rfl) rfl (fun h S=>?_);refine aQ.2 (S.aP 0 rfl rfl (gr.2 (bR (fun hc=>?_) (fun hc=>?_))))
 · have M:=aV hc M;cases M;exact H _ _  S.bO
 · have M:=aX hc M;have S:=S.f1;exact aDg M S  H
end
end Go.Ve.T
namespace Go.Ve
open Go.RowKit
noncomputable section
section
variable {h:AH}{R:Value→AH→Prop}
theorem ahc {a b:Nat}(ha:a≤18446744073709551615)(hb:b≤18446744073709551615):WP (.aL .and) [.int .u64 (a:Int),.int .u64 (b:Int)] h R↔R (.int .u64 ((a &&& b:Nat):Int)) h:=ef fun kk=>by
 show iff (jE .u64 .u64) (bif Nat.ble a 18446744073709551615&&Nat.ble b 18446744073709551615 then fN (Nat.land a b) (fun n=>kk (.int .u64 (.ofNat n)) h)else false)=_;have e:(Nat.ble a 18446744073709551615&&Nat.ble b 18446744073709551615)=true:=by simp only [zae,zaD];exact⟨ha,hb⟩
 rw [uY,jh,e,zam,dG];rfl
theorem QD {a b:Nat}(hb:b≤64):WP (.aL .shr) [.int .u64 (a:Int),.int .u64 (b:Int)] h R↔R (.int .u64 ((a >>> b:Nat):Int)) h:=ef fun kk=>by
 show(bif Nat.ble b 64 then fN (Nat.shiftRight a b) (fun n=>kk (.int .u64 (.ofNat n)) h)else false)=_;have e:Nat.ble b 64=true:=by rw [zaD];exact hb
 rw [e,zam,dG];rfl
theorem xV {n}(h1:0≤n)(h2:n≤18446744073709551615):bN .u64 n=n:=by
 show IntKind.u64.wrap n=n;simp only [IntKind.wrap,IntKind.bits,IntKind.signed]
 first | omega | (simp;omega)
theorem arH {sz b o n cap b' o' n' eX l m}(hm:m=min n' n)(hr:h.bH b' o' l)(hl:l.length=m*sz)(h0:0<m*sz)(hc:h.can b o l.length)(ha:fi l=true):WP (.copy sz) [gD b o n cap,gD b' o' n' eX] h R↔R (vi (m:Int)) (h.wr b o l):=ef fun k=>by
 show fN (bif Nat.ble n' n then n' else n) (fun q=>bif Nat.beq q 0 then k (.int .i64 (.ofNat 0)) h else pL h b' o' (Nat.mul q sz) fun l=>xd h b o l fun h=>k (.int .i64 (.ofNat q)) h)=_
 have e:(bif Nat.ble n' n then n' else n)=m:=by
  rw [hm];cases hb:Nat.ble n' n with
  | true=>rw [zaD]at hb;rw [Nat.min_eq_left hb];rfl
  | false=>
   have:¬n'≤n:=fun hh=>by rw [←zaD,hb]at hh;cases hh
   rw [Nat.min_eq_right (by omega)];rfl
 rw [dG,e];have hm0:m≠0:=fun e=>by rw [e]at h0;simp at h0
 rw [jt hm0];show pL h b' o' (m*sz) _=_;rw [Ub hr hl h0,Uc hc ha];rfl
end
end
end Go.Ve
namespace Go.Ve.T
open Go.Ve Go.Proofs
noncomputable section
set_option maxRecDepth 10000
section
variable {w0:World}{g h:AH}{Q:CR→AH→Prop}
theorem aHs (n:Nat)(hn:n≤65536)(H:Q (.ret (.tuple ⟨[.int .u64 0,.int .u64 (n:Int)]⟩)) h):WF PP w0 YQ [.int .u64 1,.int .u64 (n:Int)] h Q:=by
 refine atw _ _ ?_;unfold aij;refine qT ?_;unfold aii;refine att _ _ ?_;unfold aif;have e1:(1:Nat) &&& 4294967295=1:=by decide
 have e2:(1:Nat) >>> 32=0:=by decide
 have e3:n &&& 4294967295=n:=by
  have:=Nat.and_two_pow_sub_one_eq_mod n 32;rw [show(4294967295:Nat)=2 ^ 32-1 by decide,this];exact Nat.mod_eq_of_lt (by omega)
 have e4:n >>> 32=0:=by rw [Nat.shiftRight_eq_div_pow];exact Nat.div_eq_of_lt (by omega)
 refine(ahc (a:=1) (b:=4294967295) (by decide) (by decide)).2 ?_;refine(QD (a:=1) (b:=32) (by decide)).2 ?_;refine(ahc (a:=n) (b:=4294967295) (by omega) (by decide)).2 ?_;refine(QD (a:=n) (b:=32) (by decide)).2 ?_;rw [e1,e2,e3,e4];refine Mm.2 ?_;rw [show bN .u64 (((1:Nat):Int)*(n:Int))=(n:Int) by rw [Int.natCast_one,Int.one_mul];exact xV (by omega) (by omega)];refine Mm.2 ?_;rw [show bN .u64 (((0:Nat):Int)*(n:Int))=((0:Nat):Int) by simp;exact xV (by omega) (by omega)];refine(QD (a:=n) (b:=32) (by decide)).2 ?_;rw [e4];refine gE.2 ?_;rw [show bN .u64 (((0:Nat):Int)+((0:Nat):Int))=((0:Nat):Int)from xV (by omega) (by omega)];refine(ahc (a:=0) (b:=4294967295) (by decide) (by decide)).2 ?_;refine(QD (a:=0) (b:=32) (by decide)).2 ?_;rw [show(0:Nat) &&& 4294967295=0 by decide,show(0:Nat) >>> 32=0 by decide];refine Mm.2 ?_;rw [show bN .u64 (((1:Nat):Int)*((0:Nat):Int))=((0:Nat):Int)from xV (by omega) (by omega)];refine gE.2 ?_;rw [show bN .u64 (((0:Nat):Int)+((0:Nat):Int))=((0:Nat):Int)from xV (by omega) (by omega)];refine Mm.2 ?_;rw [show bN .u64 (((0:Nat):Int)*((0:Nat):Int))=((0:Nat):Int)from xV (by omega) (by omega)];refine gE.2 ?_;rw [show bN .u64 (((0:Nat):Int)+((0:Nat):Int))=((0:Nat):Int)from xV (by omega) (by omega)];refine(QD (a:=0) (b:=32) (by decide)).2 ?_;rw [show(0:Nat) >>> 32=0 by decide];refine gE.2 ?_;rw [show bN .u64 (((0:Nat):Int)+((0:Nat):Int))=((0:Nat):Int)from xV (by omega) (by omega)];refine Mm.2 ?_;rw [show bN .u64 ((1:Int)*(n:Int))=(n:Int) by rw [Int.one_mul];exact xV (by omega) (by omega)];refine(fk rfl).2 ?_;refine(fk rfl).2 ?_;exact H
def V5 (x0:ZZD) (x1:Int):Option (ZZD):=match x0 with | [a]=>gu (decide (1≤x1)&&decide (x1≤65536)) (some (List.replicate x1.toNat a)) | _=>none
theorem aDS {r}(x0:ZZD)(x1:Int)(cA:Z)(sg:Sub g h)(ok:h.Ok)(cZ:aa (rI .i64) 1 g cA x0)(M:V5 x0 x1=some r)
 (H:∀(g' h':AH) (w1:Z) (KT:List (ZZE)),Sep ⟨g,h,[]⟩ g' h' [.sl 3 1 w1 KT]→aw (rI .i64 g') KT r→Q (.ret w1) h'):WF PP w0 YT [cA,vi x1] h Q:=by
 unfold V5 at M;split at M
 case h_2=>cases M
 rename_i a;obtain⟨hb,M⟩:=nE M;cases M;rw [zae,zap,zap]at hb;obtain⟨n,rfl⟩:∃n:Nat,x1=n:=⟨x1.toNat,by omega⟩;rw [zau]at H;have S:=Sep.start sg ok;obtain⟨ls0,X,A⟩:=cZ
 have hx0:∃b o cap,cA=gD b o 1 cap∧h.bH b o [vi a]:=by
  cases X with
  | nil=>have:=A.1;simp at this
  | mk b o m cap _ hn hc hs hr=>
   have hl:ls0.length=1:=A.1
   match ls0,hl with
   | [cs],_=>
    have e:cs=[vi a]:=A.2 0 cs a rfl rfl;subst e;subst hn;exact⟨b,o,cap,rfl,sg.bH hr⟩
 obtain⟨b0,o0,aeC,rfl,w9⟩:=hx0;refine aty _ _ ?_;unfold aiq;refine fj.2 ?_;rw [zag (by omega)];refine qT ?_;unfold aip;refine ac8.2 (FF.2 (FF.2 ?_));rw [show bN .u64 ((1:Nat):Int)=1 from xV (by omega) (by omega),show bN .u64 (n:Int)=(n:Int)from xV (by omega) (by omega)];refine aHs n (by omega) ?_;refine(fk rfl).2 ?_;refine(fk rfl).2 ?_;refine kT.2 ?_;rw [zag (by omega)];refine au rfl (au rfl (kT.2 ?_));rw [zag (by omega)];refine aW.2 ?_;unfold aio;refine qT ?_;unfold ain;refine FF.2 ?_;rw [jv (by omega) (by omega)]
 have CM:∀k:Nat,(List.replicate k [vi 0]).flatten=List.replicate k (vi 0):=fun k=>by
  induction k with
  | zero=>rfl
  | succ k ih=>rw [List.replicate_succ,zaN,ih];rfl
 have iz:∀(k:Nat) (x:Int),fi (List.replicate k (vi x))=true:=fun k x=>by
  induction k with
  | zero=>rfl
  | succ k ih=>rw [List.replicate_succ,AW,ih];rfl
 refine(amd (zad n) (by omega) rfl (by rw [CM];exact iz n 0)).2 ?_;rw [CM];have K1:=eK.new h 3 (List.replicate n (vi 0))
 have kq:(h.new 3 (List.replicate n (vi 0))).can h.nx 0 n:=by
  have:=AH.acZ h 3 (List.replicate n (vi 0)) (o:=0) (n:=n) (by simp);exact this
 have arI:(h.new 3 (List.replicate n (vi 0))).can h.nx 0 1:=by obtain⟨lo,hi,ty,c,q1,q2,q3⟩:=kq;exact⟨lo,hi,ty,c,q1,q2,by omega⟩
 refine(arH (m:=1) (l:=[vi a]) (by omega) (K1.bH ok w9) rfl (by decide) arI rfl).2 ?_
 have fin:∀h':AH,(∃lo hi ty c,h'.ob.get h.nx=some (.cells lo hi ty true c)∧lo≤0∧n≤hi)→eK h h'→h'.Ok→h'.bH h.nx 0 (List.replicate n (vi a))→h.nx<h'.nx→Q (.ret (gD h.nx 0 n n)) h':=by
  rintro h' ⟨lo,hi,ty,c,q1,q2,q3⟩ K pS hr cy
  have hfa:∀k:Nat,(List.replicate k [vi a]).flatten=List.replicate k (vi a):=fun k=>by
   induction k with
   | zero=>rfl
   | succ k ih=>rw [List.replicate_succ,zaN,ih];rfl
  have hfa:=hfa n;refine H g h' _ (List.replicate n [vi a]) (S.add _ pS K.nx K.get ?_ C6 (fun b hb=>by simp [Ob.cS,iP]at hb;subst hb;exact⟨cy,zad _⟩)) (aw.I8 (show rI .i64 g [vi a] a from rfl) n);exact .kn h.nx 0 n n lo hi ty c _ (by simp) (zad _) (by unfold bQ;omega) q1 q2 (by simpa using q3) (by rw [hfa];exact hr) (fun x hx=>by rw [(List.mem_replicate.1 hx).2];rfl)
 have ok1:(h.new 3 (List.replicate n (vi 0))).Ok:=AH.AR ok _ _;refine ac9 (fun v h'=>∃y:Nat,v=vi y∧1≤y∧y≤n∧eK h h'∧h'.Ok∧h'.can h.nx 0 n∧h'.bH h.nx 0 (List.replicate y (vi a))∧h.nx<h'.nx) (fun v _=>match v with | .int _ q=>(n-q).toNat | _=>0) ?_ ?_
 · rintro v h' k ⟨y,rfl,UH,hyn,K,pS,hc,hr,cy⟩ hk;unfold aim;refine ac8.2 (fj.2 ?_)
   by_cases Iv:y<n
   · rw [zac (show(y:Int)<(n:Int) by omega)];refine yg ?_;unfold ail;have cap:aeu 1 n n:=⟨by unfold bQ;omega,.inl ⟨zad _,by unfold bQ;omega⟩⟩;refine ND (k1:=.i64) (k2:=.i64) (i:=y) (j:=n) cap hyn (zad _) true false (by simp) (by simp) rfl (ND (k1:=.i64) (k2:=.i64) (i:=0) (j:=y) cap (by omega) (by omega) false true (by simp) (by simp) rfl ?_)
     have e1:pT 1 (gD h.nx 0 n n) y n=gD h.nx y (n-y) (n-y):=by
      show(if n<bQ then(if n=y then Value.slice (some ⟨h.nx,0,none⟩) (n-y) 0 else Value.slice (some ⟨h.nx,0+y*1,none⟩) (n-y) (n-y))else Value.slice (some ⟨h.nx,0+y*1,none⟩) (n-y) n)=_;rw [if_pos (by unfold bQ;omega),if_neg (by omega),zav,Nat.mul_one]
     have e2:pT 1 (gD h.nx 0 n n) 0 y=gD h.nx 0 y n:=by
      show(if n<bQ then(if n=0 then Value.slice (some ⟨h.nx,0,none⟩) (y-0) 0 else Value.slice (some ⟨h.nx,0+0*1,none⟩) (y-0) (n-0))else Value.slice (some ⟨h.nx,0+0*1,none⟩) (y-0) n)=_;rw [if_pos (by unfold bQ;omega),if_neg (by omega)];simp
     rw [e1,e2];have hm:min y (n-y)≤y:=Nat.min_le_left _ _;have Fb:min y (n-y)≤n-y:=Nat.min_le_right _ _;have hm3:1≤min y (n-y):=by omega
     generalize L8:min y (n-y)=m at hm Fb hm3
     have qX:h'.bH h.nx 0 (List.replicate m (vi a)):=fun i v hv=>hr i v (by
      have hi:=(List.getElem?_eq_some_iff.1 hv).1;rw [za9]at hi;rw [zaF]at hv ⊢;rw [if_pos (by omega)]at hv ⊢;exact hv)
     have jf:h'.can h.nx y (List.replicate m (vi a)).length:=by
      obtain⟨lo,hi,ty,c,q1,q2,q3⟩:=hc;exact⟨lo,hi,ty,c,q1,by omega,by rw [za9];omega⟩
     refine(arH (m:=m) (l:=List.replicate m (vi a)) L8.symm qX (by simp) (by omega) jf (iz m a)).2 ?_;refine⟨Ud.2 Gc,?_⟩;refine gE.2 ?_;rw [jv (by omega) (by omega)];refine hk _ _ ⟨y+m,by simp,by omega,by omega,K.wr (zad _) _ _,AH.AS pS _ _ _,AH.T6 hc,fun i v hv=>?_,by rw [AH.rl];exact cy⟩ ?_
     · have hi:=(List.getElem?_eq_some_iff.1 hv).1;rw [za9]at hi;rw [zaF,if_pos hi]at hv;cases hv;rw [AH.CE jf (zad _),zav]
       by_cases hiy:i<y
       · rw [if_neg (by omega)];have:=hr i (vi a) (by rw [zaF,if_pos hiy])
         rwa [zav]at this
       · rw [if_pos ⟨rfl,by omega,by rw [za9];omega⟩,zaF,if_pos (by omega)]
     · show((n:Int)-((y:Int)+(m:Int))).toNat<((n:Int)-(y:Int)).toNat;omega
   · rw [zag (show¬(y:Int)<(n:Int) by omega)];refine qT ?_;unfold aik;have e:y=n:=by omega
     subst e;obtain⟨lo,hi,ty,c,q1,q2,q3⟩:=hc;exact fin h' ⟨lo,hi,ty,c,q1,q2,by omega⟩ K pS hr cy
 · refine⟨1,rfl,zad _,by omega,K1.wr (zad _) _ _,AH.AS ok1 _ _ _,AH.T6 kq,fun i v hv=>?_,by rw [AH.rl];exact zax _⟩;have hi:=(List.getElem?_eq_some_iff.1 hv).1;rw [za9]at hi;have tV:i=0:=by omega
   subst tV;cases hv;rw [AH.CE (n:=1) arI (by simp),if_pos ⟨rfl,by omega,by simp⟩];rfl
abbrev arJ:Int×Int→ZZE:=fun p=>[vi p.1,vi p.2]
def Bp (N:Nat) (x0:ae) (x1:Int):Option (List (Int×Int)):=
 (ix x0.ab x1).bind fun i=>
 (Gf N i).bind fun ps=>
 gu (decide (ps.length≤1000)) (
 (OB N x0 x1).bind fun q=>
 let l:=(bif !(ez i.aJ).jP&&decide (bN .i64 (x1+1)<(x0.ab.length:Int))then [(bN .i64 (x1+1),0)]else [])++ps.map (fun p=>(p,1))
 bif (ez i.aJ).jV&&decide (0≤q)then(ix x0.aI q).bind fun d=>some (l++[(d.bG,2)])else some l)
abbrev Kf (u:ae) (w1 w2:Z):ZZE:=(ZZA u w1 w2)
theorem aHt (N:Nat) (u:ae) (at_:Int) (w1 w2:Value) (bu ba:Nat){l:List (Int×Int)}(r1:g.bH bu 0 (Kf u w1 w2)) (r2:g.bH ba 0 [vi at_]) (F1:aa ah.rep 4 g w1 u.ab) (F2:aa al.rep 3 g w2 u.aI) (M:Bp N u at_=some l):
 Bj PP w0 g (.func (.func Rj) ⟨[]⟩ ⟨[ak bu 0,ak ba 0]⟩) arJ l:=by
 refine⟨rfl,_,[],[ak bu 0,ak ba 0],rfl,fun yv Inv Stop Q g1 h wF hK hI step I0 fin stop=>?_⟩;unfold Bp at M;obtain⟨i,hi,M⟩:=bind_some M;obtain⟨ps,jL,M⟩:=bind_some M;obtain⟨aHu,M⟩:=nE M;rw [decide_eq_true_eq]at aHu;obtain⟨q,hq,M⟩:=bind_some M;have r1:=wF.bH r1;have r2:=wF.bH r2;have F1:=F1.mono ah.mono wF;have F2:=F2.mono al.mono wF
 clear wF
 generalize g1=g at*;show WF PP w0 Rj [yv,ak bu 0,ak ba 0] h Q;have go:∀{g h:AH}{k:Nat},Inv k g h→Sep ⟨g,h,[]⟩ g h []:=fun hh=>Sep.start (hI _ _ _ hh).1 (hI _ _ _ hh).2
 refine atp _ _ _ ?_;unfold aid;have S:=go I0;refine aQ.2 (S.dK (r1 5 _ rfl) (S.dK (r2 0 _ rfl) (aa.idx F1 hi (fun b o vs E rr rp=>?_))));cases rp;refine S.iX rr rfl (by decide) (S.alloc (l:=[vi 0,vi 0,vi 0,vi 0]) rfl (fun b6 h S=>?_));refine S.cV [vi i.aJ,vi i.fA,vi i.fB,vi i.fC] [vi i.aJ,vi i.fA,vi i.fB,vi i.fC] rfl rfl rfl (Nat.le_of_ble_eq_true rfl) rfl (fun h S=>?_);refine aQ.2 (S.aP 0 rfl rfl (Gh (M:=rfl) (sg:=S.sub) (ok:=S.ok) (H:=fun _ h S1=>?_)));have S:=S.dz S1;refine(fk rfl).2 ?_;refine(fk rfl).2 ?_;generalize hf:ez i.aJ=f at*;refine S.alloc (l:=[.string ⟨⟨[]⟩⟩,vi 0,vi 0,vi 0,vi 0,vi 0,vi 0,.bool false,.bool false]) rfl (fun b13 h S=>?_);refine S.cV f.cells f.cells rfl rfl rfl (Nat.le_of_ble_eq_true rfl) rfl (fun h S=>?_)
 obtain⟨g2,sg,S,Kg⟩:=S.vk;obtain⟨g3,Kh,S,r6⟩:=S.vk;have I1:=hK _ _ _ _ _ I0 S;have Kg:=Kh.bH Kg;have sg:=sg.trans Kh;have r1:=sg.bH r1;have r2:=sg.bH r2;have F1:=F1.mono ah.mono sg;have F2:=F2.mono al.mono sg;have fin:∀v g' h',Sub g3 g'→Inv l.length g' h'→Q (.ret v) h':=fun v g' h' s=>fin v g' h' (sg.trans s)
 clear I0 S S1 sg Kh
 have last:∀(g h:AH) (l0:List (Int×Int)),Sub g3 g→Inv l0.length g h→(bif f.jV&&decide (0≤q)then(ix u.aI q).bind fun d=>some (l0++[(d.bG,2)])else some l0)=some l→
  YN w0 (fun v h=>Q (.bC v) h) (fun v h=>Q (.ret v) h) (ak bu 0) (ak ba 0) (ak b13 0) yv h:=by
  intro g h l0 s3 Ik M;have S0:=go Ik;have r1:=s3.bH r1;have Kg:=s3.bH Kg;have F2:=F2.mono al.mono s3;unfold YN;refine S0.iX (l:=Kf u w1 w2) r1 rfl (by decide) (S0.dK (s3.bH r2 0 _ rfl) (aC3 hq S0.sub S0.ok (F1.mono ah.mono s3) F2 (fun _ h1 S1=>?_)));have S2:=S0.dz S1;have Ik:=hK _ _ _ _ _ Ik S2;refine aQ.2 (S2.dK (Kg 7 _ rfl) ?_);cases hr:f.jV with
  | false=>
   rw [hr]at M;cases M;repeat refine ax (by decide) ?_;refine aW.2 ?_;unfold YM;refine qT ?_;exact fin _ _ _ s3 Ik
  | true=>
   rw [hr,Bool.true_and]at M;refine au rfl (au rfl (sk.2 (aW.2 ?_)));unfold YM;cases h0:decide (0≤q)with
   | false=>
    rw [h0]at M;cases M;refine qT ?_;exact fin _ _ _ s3 Ik
   | true=>
    rw [h0]at M;obtain⟨d,hd,M⟩:=bind_some (aV rfl M);cases M;refine yg (aQ.2 (S2.dK (r1 6 _ rfl) (aa.idx F2 hd (fun b o vs E rr rp=>?_))));cases rp;refine aQ.2 (S2.dK (rr 2 _ rfl) (step l0.length (d.bG,2) g h1 _ _ (by simp) Ik (fun g2 h2 sb I2=>?_) (fun h2 s2=>stop _ _ s2)));refine fin _ _ _ (s3.trans sb) ?_;simpa using I2
 have mid:∀(g h:AH) (l0:List (Int×Int)),Sub g3 g→Inv l0.length g h→(bif f.jV&&decide (0≤q)then(ix u.aI q).bind fun d=>some (l0++ps.map (fun p=>(p,1))++[(d.bG,2)])else some (l0++ps.map (fun p=>(p,1))))=some l→
  YO w0 (fun v h=>Q (.bC v) h) (fun v h=>Q (.ret v) h) (ak b6 0) yv (ak bu 0) (ak ba 0) (ak b13 0) h:=by
  intro g h l0 s3 Ik M;have S0:=go Ik
  have pre:∃m,l=l0++ps.map (fun p=>(p,1))++m:=by
   cases hc:f.jV&&decide (0≤q)with
   | true=>rw [hc]at M;obtain⟨d,_,M⟩:=bind_some (aV rfl M);cases M;exact⟨_,rfl⟩
   | false=>rw [hc]at M;cases M;exact⟨[],by simp⟩
  obtain⟨m,hl⟩:=pre
  have aHv:∀k p,ps[k]? =some p→l[l0.length+k]? =some (p,1):=fun k p hp=>by
   have hk:k<ps.length:=(List.getElem?_eq_some_iff.1 hp).1;rw [hl,List.getElem?_append_left (by simp;omega),List.getElem?_append_right (by omega),Nat.add_sub_cancel_left,List.getElem?_map,hp];rfl
  unfold YO;refine S0.iX (l:=[vi i.aJ,vi i.fA,vi i.fB,vi i.fC]) (s3.bH r6) rfl (by decide) (aoS jL S0.sub S0.ok (fun g1 h1 v30 S1 F3=>?_));have S2:=S0.call S1;have Ik:=hK _ _ _ _ _ Ik S2;refine F3.len (ac9 (fun v h'=>∃(k:Nat) (g':AH),v=vi k∧k≤ps.length∧Sub g1 g'∧Inv (l0.length+k) g' h') (fun v _=>match v with | .int _ n=>(ps.length-n).toNat | _=>0) ?_ ⟨0,g1,rfl,Nat.zero_le _,.refl _,Ik⟩);rintro v h' kk ⟨k,g',rfl,hk,sb,Ik⟩ Eg;unfold aic;refine fj.2 ?_
  by_cases cy:k<ps.length
  · rw [decide_eq_true (show(k:Int)<(ps.length:Int) by omega)];refine yg ?_;unfold aib;have F3':=F3.mono (eD .i64) sb;refine aa.idx F3' (x:=ps[k]) (by rw [gG];exact List.getElem?_eq_getElem cy) (fun b o vs E rr rp=>?_);cases rp;have S3:=go Ik;refine S3.dK (rr 0 _ rfl) (step (l0.length+k) (ps[k],1) g' h' _ _ (aHv k _ (List.getElem?_eq_getElem cy)) Ik (fun g2 h2 sb2 I2=>?_) (fun h2 s2=>?_))
    · refine dZ.2 (qT ?_);unfold aia;refine gE.2 ?_;rw [jv (by omega) (by omega)];refine Eg _ _ ⟨k+1,g2,by simp,cy,sb.trans sb2,by rw [←Nat.add_assoc];exact I2⟩ ?_;show((ps.length:Int)-((k:Int)+1)).toNat<((ps.length:Int)-(k:Int)).toNat;omega
    · refine dZ.2 (yg ?_);exact stop _ _ s2
  · rw [decide_eq_false (show¬(k:Int)<(ps.length:Int) by omega)];refine qT ?_;have e:k=ps.length:=by omega
    subst e;refine last g' h' (l0++ps.map (fun p=>(p,1))) ((s3.trans S1.bF).trans sb) ?_ M;simpa using Ik
 refine aQ.2 ?_;have S:=go I1;refine S.dK (Kg 8 _ rfl) (dZ.2 ?_);cases he:f.jP with
 | true=>
  rw [he]at M;repeat refine ax (by decide) ?_;refine aW.2 ?_;unfold YP;repeat refine ax (by decide) ?_;refine aW.2 ?_;unfold Kv;refine qT ?_;exact mid g3 h [] (.refl _) I1 M
 | false=>
  rw [he]at M;refine au rfl (S.dK (r2 0 _ rfl) (au rfl (gE.2 (au rfl (aQ.2 (au rfl (S.dK (r1 5 _ rfl) (au rfl (F1.len (au rfl (fj.2 (aW.2 ?_))))))))))));unfold YP;cases hn:decide (bN .i64 (at_+1)<(u.ab.length:Int))with
  | false=>
   rw [hn]at M;repeat refine ax (by decide) ?_;refine aW.2 ?_;unfold Kv;refine qT ?_;exact mid g3 h [] (.refl _) I1 M
  | true=>
   rw [hn]at M;refine au rfl (au rfl (S.dK (r2 0 _ rfl) (au rfl (gE.2 (au rfl ?_)))))
   have h0:l[0]? =some (bN .i64 (at_+1),0):=by
    cases hc:f.jV&&decide (0≤q)with
    | true=>rw [hc]at M;obtain⟨d,_,M⟩:=bind_some (aV rfl M);cases M;rfl
    | false=>rw [hc]at M;cases M;rfl
   refine step 0 (bN .i64 (at_+1),0) g3 h _ _ h0 I1 (fun g2 h2 sb2 I2=>?_) (fun h2 s2=>?_)
   · refine au rfl (dZ.2 (aW.2 ?_));unfold Kv;refine qT ?_;exact mid g2 h2 [(bN .i64 (at_+1),0)] sb2 I2 M
   · refine au rfl (dZ.2 (aW.2 ?_));unfold Kv;refine yg ?_;exact stop _ _ s2
theorem V6 {r}(N:Nat)(x0:ae)(x1:Int)(cw cx:Z)(sg:Sub g h)(ok:h.Ok)(cg:aa ah.rep 4 g cw x0.ab)(cz:aa al.rep 3 g cx x0.aI)(M:Bp N x0 x1=some r)
 (H:∀(g' h':AH) (w1:Z),Sep ⟨g,h,[]⟩ g' h' []→Bj PP w0 g' w1 arJ r→Q (.ret w1) h'):WF PP w0 Hj [.agg ⟨Kf x0 cw cx⟩,vi x1] h Q:=by
 have S:=Sep.start sg ok;refine atr _ _ ?_;unfold aie;refine S.box (Kf x0 cw cx) rfl (ag rfl (ag rfl (ag rfl (ag rfl (ag rfl (ag cg.one (ag cz.one rfl))))))) (fun b1 h S=>?_);refine S.box [vi x1] rfl rfl (fun b2 h S=>?_);refine(Ii (by simp)).2 ?_;obtain⟨g2,xr,S,r2⟩:=S.vk;obtain⟨g3,QE,S,r1⟩:=S.vk;have Kh:=xr.trans QE;exact H g3 h _ S (aHt N x0 x1 cw cx b1 b2 r1 (QE.bH r2) (cg.mono ah.mono Kh) (cz.mono al.mono Kh) M)
end
end
end Go.Ve.T
namespace Go.Ve.T
open Go.Ve Go.Proofs
noncomputable section
set_option maxRecDepth 10000
def rz (w0:World) (g:AH) (fv:Z) (f:Int→Int→Int→Option Bool):Prop:=iA fv=true∧∀(a0:Int) (a1:Int) (a2:Int) (r:Bool) (E K:ZZF) (g2 h2:AH),Sub g g2→Sub g2 h2→h2.Ok→f a0 a1 a2=some r→(∀(g' h':AH),Sep ⟨g2,h2,[]⟩ g' h' []→K (.bool r) h')→dy PP w0 [fv,vi a0,vi a1,vi a2] E K h2
theorem rz.mono {w0 g g' fv f}(H:rz w0 g fv f)(S:Sub g g'):rz w0 g' fv f:=⟨H.1,fun a0 a1 a2 r E K g2 h2 s1=>H.2 a0 a1 a2 r E K g2 h2 (Sub.trans S s1)⟩
def OO {ρ:Type}(N:Nat) (v9:ZZD) (dI:Int) (l8:Int) (ej:ZZD) (pW:Int) (iZ:ae) (OP:ZZD) (JA:Bool) (gH:Fl→(ZZD)→(ZZD)→Bool→(ZZD)→Option (ρ)):Option (ρ):=
(ix v9 dI).bind fun tR=>
 bif (decide (tR<0))then(
(ix v9 dI).bind fun zi=>
 gu (decide (ej.length+[dI].length≤1048576)) (
 gH .go (v9.set dI.toNat l8) OP JA (ej++[dI])))else(
 gH .go v9 OP JA ej)
def JB {ρ:Type}(N:Nat) (v9:ZZD) (dI:Int) (v2:ZZD) (v3:Bool) (ej:ZZD) (l8:Int) (pW:Int) (iZ:ae) (gH:Fl→(ZZD)→(ZZD)→Bool→(ZZD)→Option (ρ)):Option (ρ):=
(kb l8 0 40).bind fun afE=>
 bif (!afE)then(
 gH .ret v9 ([]:ZZD) false ej)else(
(ix v9 dI).bind fun zz=>
 bif (decide (0≤zz))then(
(ix v9 dI).bind fun JC=>
 bif (!decide (JC=l8))then(
 gH .ret v9 ([]:ZZD) false ej)else(
 OO N v9 dI l8 ej pW iZ v2 v3 gH))else(
 OO N v9 dI l8 ej pW iZ v2 v3 gH))
def xD {ρ:Type}(N:Nat) (v9:ZZD) (v37:Int) (v1:ae) (v2:ZZD) (v3:Bool) (ej:ZZD) (dI:Int) (n6:Int) (gH:Fl→(ZZD)→(ZZD)→Bool→(ZZD)→Option ρ):Option ρ:=
(ix v9 v37).bind fun Dr=>
(ix v1.ab v37).bind fun apN=>
(OE apN n6).bind fun GJ=>
 bif (decide (n6=2))then(
 JB N v9 dI v2 v3 ej 0 v37 v1 gH)else(
 JB N v9 dI v2 v3 ej (bN .i64 (Dr+GJ)) v37 v1 gH)
def OQ (N:Nat) (ej:ZZD) (uf:ae) (V2:ZZD) (V3:ZZD) (V4:Bool) (ug:(ZZD)→(ZZD)→(ZZD)→Bool→Option ((ZZD)×Bool)):Option ((ZZD)×Bool):=
(vm ej 1 (ej.length:Int)).bind fun apO=>
 ug apO V2 V3 V4
def OS (N:Nat) (ej:ZZD) (v1:ae) (v9:ZZD) (v2:ZZD) (v3:Bool) (ug:(ZZD)→(ZZD)→(ZZD)→Bool→Option ((ZZD)×Bool)):Option ((ZZD)×Bool):=
(ix ej 0).bind fun ia=>
(Bp N v1 ia).bind fun jY=>
(rq (fun(s:(ZZD)×(ZZD)×Bool×(ZZD)) (x:Int×Int)=>xD N s.1 ia v1 s.2.1 s.2.2.1 s.2.2.2 x.1 x.2 (fun f m0 m1 m2 m3=>some ((m0,m1,m2,m3),f))) jY (v9,v2,v3,ej)).bind fun qH=>
 Ge qH.2 (
 OQ N qH.1.2.2.2 v1 qH.1.1 qH.1.2.1 qH.1.2.2.1 ug) (
 some (qH.1.2.1,qH.1.2.2.1)) (fun _=>none)
def afF (N:Nat) (v9:ZZD) (v2:ZZD) (v3:Bool)  :Option ((ZZD)×Bool):=
 some (v9,true)
def afG (N:Nat) (v1:ae) (v9:ZZD) (v2:ZZD) (v3:Bool) (ej:ZZD) (ug:(ZZD)→(ZZD)→(ZZD)→Bool→Option ((ZZD)×Bool)):Option ((ZZD)×Bool):=
 bif (decide (0<(ej.length:Int)))then(
 OS N ej v1 v9 v2 v3 ug)else(
 afF N v9 v2 v3)
def Bq (N:Nat) (v1:ae)  :Nat→(ZZD)→(ZZD)→Bool→(ZZD)→Option ((ZZD)×Bool) | 0,_,_,_,_=>none | n+1,v9,v2,v3,ej=>afG N v1 v9 v2 v3 ej  (fun ar bY ey j0=>Bq N v1 n bY ey j0 ar)
def Ds (N:Nat) (x0:ae):Option ((ZZD)×Bool):=
(V5 [-1] (x0.ab.length:Int)).bind fun eR=>
(ix eR 0).bind fun kD=>
 Bq N x0 N (eR.set (0:Int).toNat 0) ([]:ZZD) false [0]
abbrev JD (c:Cx) (R:ZZF) (r:(ZZD)×Bool):Prop:=∀(g' h':AH) (w1:Z),Sep c g' h' []→aa (rI .i64) 1 g' w1 r.1→R (.tuple ⟨[w1,.bool r.2]⟩) h'
theorem apP {ρ:Type}{w0:World}{c:Cx}{g h:AH}{E R:ZZF}{r:ρ}{N:Nat}{v9:ZZD}{dI l8:Int}{ej:ZZD}{pW:Int}{iZ:ae}{OP:ZZD}{JA:Bool}{gI:Nat}{jQ:Z}{kE:List (ZZE)}{kY:Nat}{j2:Z}{kF:List (ZZE)}{vu:Nat}{vv:LO}{zA:List Nat}{zB JE:Nat}{Dt Du:Z}{afH:Nat}{afI:Z}{afJ:Nat}{gH:Fl→(ZZD)→(ZZD)→Bool→(ZZD)→Option (ρ)}{qI:AH}(M:OO N v9 dI l8 ej pW iZ OP JA gH=some r)(S:Sep c g h [.bx gI [jQ],.sl 3 1 jQ kE,.bx kY [j2],.sl 3 1 j2 kF,.lp vu vv .busy none,.ds zA,.bx zB [vi pW],.bx JE (ZZA iZ Dt Du),.bx afH [afI],.bx afJ [.bool JA]])(kZ:aw ((rI .i64) g) kE v9)(lV:aw ((rI .i64) g) kF ej)(afK:aa ah.rep 4 g Dt iZ.ab)(afL:aa al.rep 3 g Du iZ.aI)(apQ:aa (rI .i64) 1 g afI OP)(oA:Sub qI g)(oB:∀{f:Fl}{dH:ZZD}{Dv:Z}{fe:List (ZZE)}{Dw:ZZD}{Dx:Z}{uh:Bool}{Dy:ZZD}{Dz:Z}{DA:List (ZZE)}{g2 h2:AH},gH f dH Dw uh Dy=some r→Sub qI g2→Sep c g2 h2 [.lp vu vv f.st f.pd,.ds zA,.bx gI [Dv],.sl 3 1 Dv fe,.bx zB [vi pW],.bx JE (ZZA iZ Dt Du),.bx afH [Dx],.bx afJ [.bool uh],.bx kY [Dz],.sl 3 1 Dz DA]→aw ((rI .i64) g2) fe dH→aa (rI .i64) 1 g2 Dx Dw→aw ((rI .i64) g2) DA Dy→R (.bool f.on) h2)(H:True):Rn w0 E R (ak gI 0) (vi dI) (vi l8) (ak kY 0) vv vu h:=by
 unfold Rn;unfold OO at M;refine S.aP 0 rfl rfl ?_;obtain⟨tR,aef,M⟩:=bind_some M;refine S.mF 1 rfl kZ aef (fun aKK aKL vs aDi aDj rp=>?_);cases rp;refine S.tU (j:=0) 1 rfl aDi aDj rfl (fj.2 (bR (fun hc=>?_) (fun hc=>?_)))
 · have M:=aV hc M;refine S.aP 0 rfl rfl ?_;obtain⟨zi,aeh,M⟩:=bind_some M;refine S.mF 1 rfl kZ aeh (fun aCA aKM vs aDk aDl rp=>?_);cases rp;have S:=S.f1;refine S.Bb (j:=0) [vi l8] aDk aDl rfl rfl (ag rfl rfl) (by decide) (fun h S=>?_);have aDm:aw ((rI .i64) g) (kE.set dI.toNat [vi l8]) (v9.set dI.toNat l8):=aw.set kZ (show(rI .i64) g [vi l8] l8 from rfl) dI.toNat;have S:Sep _ g h [.sl 3 1 jQ (kE.set dI.toNat [vi l8]),.bx gI [jQ],.bx kY [j2],.sl 3 1 j2 kF,.lp vu vv .busy none,.ds zA,.bx zB [vi pW],.bx JE (ZZA iZ Dt Du),.bx afH [afI],.bx afJ [.bool JA]]:=S;refine S.aP 2 rfl rfl (S.tp [[vi dI]] (rn (m:=[vi dI]) (l2:=[vi dI]) rfl rfl (zaa rfl) rfl rfl) rfl (by decide) (vn rfl tq) (ag rfl rfl) (fun aKN h S=>?_));have afM:aw ((rI .i64) g) [[vi dI]] [dI]:=(aw.push aw.nil (show(rI .i64) g [vi dI] dI from rfl));have S:=S.f4;obtain⟨aDn,M⟩:=nE M;refine S.app (S.rd 1 rfl) (by rw [lV.1,afM.1];exact aDn) (by decide) rfl (nF (rY .i64) afM) (nF (rY .i64) lV) (fun apR h S=>?_);have aDo:aw ((rI .i64) g) (kF++[[vi dI]]) (ej++[dI]):=aw.append lV afM;have S:=S.f4;refine S.cV [apR] [apR] (mE (S.kX 1 rfl)) rfl (ag (S.kX 1 rfl) rfl) (zaa rfl) rfl (fun h S=>?_);have S:=S.f5;refine S.lg (fun h S=>?_);have S:=S.f2.f2.f10.f10.f10.f10.f8.f9.f10.f9.t10;exact oB M oA S aDm apQ aDo
 · have M:=aX hc M;have S:=S.f4;refine S.lg (fun h S=>?_);have S:=S.f4.f4.f9.f9.f9.f9.f8.f8.f9.f9;exact oB M oA S kZ apQ lV
theorem apS {ρ:Type}{w0:World}{c:Cx}{g h:AH}{E R:ZZF}{r:ρ}{N:Nat}{v9:ZZD}{dI:Int}{v2:ZZD}{v3:Bool}{ej:ZZD}{l8 pW:Int}{iZ:ae}{gI:Nat}{jQ:Z}{kE:List (ZZE)}{aK:Nat}{gU:Z}{bI kY:Nat}{j2:Z}{kF:List (ZZE)}{vu:Nat}{vv:LO}{zA:List Nat}{zB JE:Nat}{Dt Du:Z}{gH:Fl→(ZZD)→(ZZD)→Bool→(ZZD)→Option (ρ)}{qI:AH}(M:JB N v9 dI v2 v3 ej l8 pW iZ gH=some r)(S:Sep c g h [.bx gI [jQ],.sl 3 1 jQ kE,.bx aK [gU],.bx bI [.bool v3],.bx kY [j2],.sl 3 1 j2 kF,.lp vu vv .busy none,.ds zA,.bx zB [vi pW],.bx JE (ZZA iZ Dt Du)])(kZ:aw ((rI .i64) g) kE v9)(j3:aa (rI .i64) 1 g gU v2)(lV:aw ((rI .i64) g) kF ej)(afK:aa ah.rep 4 g Dt iZ.ab)(afL:aa al.rep 3 g Du iZ.aI)(oA:Sub qI g)(oB:∀{f:Fl}{dH:ZZD}{Dv:Z}{fe:List (ZZE)}{Dw:ZZD}{Dx:Z}{uh:Bool}{Dy:ZZD}{Dz:Z}{DA:List (ZZE)}{g2 h2:AH},gH f dH Dw uh Dy=some r→Sub qI g2→Sep c g2 h2 [.lp vu vv f.st f.pd,.ds zA,.bx gI [Dv],.sl 3 1 Dv fe,.bx zB [vi pW],.bx JE (ZZA iZ Dt Du),.bx aK [Dx],.bx bI [.bool uh],.bx kY [Dz],.sl 3 1 Dz DA]→aw ((rI .i64) g2) fe dH→aa (rI .i64) 1 g2 Dx Dw→aw ((rI .i64) g2) DA Dy→R (.bool f.on) h2)(H:True):Kw w0 E R (ak gI 0) (vi dI) (ak aK 0) (ak bI 0) vv vu (ak kY 0) (vi l8) h:=by
 unfold Kw;unfold JB at M;obtain⟨afE,aDp,M⟩:=bind_some M;refine mJ aDp S.sub S.ok (fun _ h  S1  =>?_);have S:=S.dz S1;refine dZ.2 ?_;cases hc:(!afE)
 · have M:=aX hc M;refine au rfl ?_;refine S.aP 0 rfl rfl ?_;refine au rfl ?_;refine au rfl ?_;obtain⟨zz,afN,M⟩:=bind_some M;refine S.mF 1 rfl kZ afN (fun aKO aKP vs aDq aDr rp=>?_);cases rp;refine au rfl ?_;refine S.tU (j:=0) 1 rfl aDq aDr rfl ?_;refine au rfl ?_;refine sk.2 ?_;refine au rfl ?_;cases hc:(decide (0≤zz))
   · have M:=aX hc M;refine ax (by decide) ?_;refine ax (by decide) ?_;refine ax (by decide) ?_;refine ax (by decide) ?_;refine ax (by decide) ?_;refine ax (by decide) ?_;refine au rfl ?_;refine aW.2 ?_;refine aW.2 ?_;refine qT ?_;have S:=S.f3;have S:=S.f3;have S:=S.f9;have S:=S.f9;have S:=S.f9;have S:=S.f9;have S:=S.f9;have S:=S.f9;have S:=S.f9;have S:=S.f9;exact apP M S kZ lV afK afL j3 oA oB trivial
   · have M:=aV hc M;refine au rfl ?_;refine S.aP 0 rfl rfl ?_;refine au rfl ?_;refine au rfl ?_;obtain⟨JC,aDs,M⟩:=bind_some M;refine S.mF 1 rfl kZ aDs (fun aDt aKQ vs aDu aDv rp=>?_);cases rp;refine au rfl ?_;refine S.tU (j:=0) 1 rfl aDu aDv rfl ?_;refine au rfl ?_;refine au rfl ?_;refine gb.2 ?_;refine au rfl ?_;refine aW.2 ?_;refine aW.2 ?_;refine bR (fun hc=>?_) (fun hc=>?_)
     · have M:=aV hc M;have S:=S.f2;refine S.cV [bJ] [bJ] (mE rfl) rfl (ag rfl rfl) (zaa rfl) rfl (fun h S=>?_);have S:=S.f3;refine S.cV [.bool false] [.bool false] rfl rfl (ag rfl rfl) (zaa rfl) rfl (fun h S=>?_);have S:=S.f6;refine S.lg (fun h S=>?_);have S:=S.f6;have S:=S.f6;have S:=S.f3;have S:=S.f4;have S:=S.f9;have S:=S.f9;have S:=S.f8;have S:=S.f8;have S:=S.f9;have S:=S.f9;exact oB M oA S kZ aa.nil lV
     · have M:=aX hc M;have S:=S.f3;have S:=S.f3;have S:=S.f9;have S:=S.f9;have S:=S.f9;have S:=S.f9;have S:=S.f9;have S:=S.f9;have S:=S.f9;have S:=S.f9;exact apP M S kZ lV afK afL j3 oA oB trivial
 · have M:=aV hc M;refine ax (by decide) ?_;refine ax (by decide) ?_;refine ax (by decide) ?_;refine ax (by decide) ?_;refine ax (by decide) ?_;refine ax (by decide) ?_;refine dQ ?_;refine dQ ?_;refine dQ ?_;refine dQ ?_;refine dQ ?_;refine dQ ?_;refine ax (by decide) ?_;refine aW.2 ?_;refine yg ?_;have S:=S.f2;refine S.cV [bJ] [bJ] (mE rfl) rfl (ag rfl rfl) (zaa rfl) rfl (fun h S=>?_);have S:=S.f3;refine S.cV [.bool false] [.bool false] rfl rfl (ag rfl rfl) (zaa rfl) rfl (fun h S=>?_);have S:=S.f6;refine S.lg (fun h S=>?_);have S:=S.f6;have S:=S.f6;have S:=S.f3;have S:=S.f4;have S:=S.f9;have S:=S.f9;have S:=S.f8;have S:=S.f8;have S:=S.f9;have S:=S.f9;exact oB M oA S kZ aa.nil lV
theorem aDw {ρ:Type}{w0:World}{c:Cx}{g h:AH}{E R:ZZF}{r:ρ}{N:Nat}{v9:ZZD}{v37:Int}{v1:ae}{v2:ZZD}{v3:Bool}{ej:ZZD}{dI n6:Int}{gI:Nat}{jQ:Z}{kE:List (ZZE)}{afO av:Nat}{aA az:Z}{aK:Nat}{gU:Z}{bI kY:Nat}{j2:Z}{kF:List (ZZE)}{n_:Nat}{o_:LO}{d_:List Nat}{gH:Fl→(ZZD)→(ZZD)→Bool→(ZZD)→Option ρ}{qI:AH}(M:xD N v9 v37 v1 v2 v3 ej dI n6 gH=some r)(S:Sep c g h [.lp n_ o_ .ready none,.ds d_,.bx gI [jQ],.sl 3 1 jQ kE,.bx afO [vi v37],.bx av (ZZA v1 aA az),.bx aK [gU],.bx bI [.bool v3],.bx kY [j2],.sl 3 1 j2 kF])(kZ:aw ((rI .i64) g) kE v9)(aH:aa ah.rep 4 g aA v1.ab)(aG:aa al.rep 3 g az v1.aI)(j3:aa (rI .i64) 1 g gU v2)(lV:aw ((rI .i64) g) kF ej)(oA:Sub qI g)(oB:∀{f:Fl}{dH:ZZD}{Dv:Z}{fe:List (ZZE)}{Dw:ZZD}{Dx:Z}{uh:Bool}{Dy:ZZD}{Dz:Z}{DA:List (ZZE)}{g2 h2:AH},gH f dH Dw uh Dy=some r→Sub qI g2→Sep c g2 h2 [.lp n_ o_ f.st f.pd,.ds d_,.bx gI [Dv],.sl 3 1 Dv fe,.bx afO [vi v37],.bx av (ZZA v1 aA az),.bx aK [Dx],.bx bI [.bool uh],.bx kY [Dz],.sl 3 1 Dz DA]→aw ((rI .i64) g2) fe dH→aa (rI .i64) 1 g2 Dx Dw→aw ((rI .i64) g2) DA Dy→R (.bool f.on) h2):Ro w0 E R (ak gI 0) (ak afO 0) (ak av 0) (ak aK 0) (ak bI 0) (ak kY 0) o_ n_ (vi dI) (vi n6) h:=by
 unfold Ro;unfold xD at M;refine S.wO ?_;refine S.rQ (fun h S=>?_);refine S.aP 2 rfl rfl ?_;refine S.aP 4 rfl rfl ?_;obtain⟨Dr,JF,M⟩:=bind_some M;refine S.mF 3 rfl kZ JF (fun aDx aKR vs afP apT rp=>?_);cases rp;refine S.tU (j:=0) 3 rfl afP apT rfl ?_;refine aQ.2 ?_;refine S.aP 5 rfl rfl ?_;refine S.aP 4 rfl rfl ?_;obtain⟨apN,aDy,M⟩:=bind_some M;refine aa.idx aH aDy (fun aKS aKT vs aKU aDz rp=>?_);cases rp;refine S.iX aDz rfl (by decide) ?_;obtain⟨GJ,afQ,M⟩:=bind_some M;refine aC5 afQ S.sub S.ok (fun _ h  S1  =>?_);have S:=S.dz S1;refine⟨?_,?_⟩
 · refine S.tU (j:=0) 3 rfl afP apT rfl ?_;exact Gc
 · refine⟨?_,?_⟩
   · exact S.aBb 3 rfl kZ JF afP
   · refine⟨?_,?_⟩
     · refine S.aP 4 rfl rfl ?_;exact Gc
     · refine⟨?_,?_⟩
       · refine S.aP 2 rfl rfl ?_;exact(S.rd 3 rfl).veq
       · refine gE.2 ?_;refine gr.2 ?_;refine bR (fun hc=>?_) (fun hc=>?_)
         · have M:=aV hc M;have S:=S.f5;have S:=S.f5;have S:=S.f3;have S:=S.f3;have S:=S.f9;have S:=S.f9;have S:=S.f9;have S:=S.f9;have S:=S.f9;have S:=S.f9;exact apS M S kZ j3 lV aH aG oA oB trivial
         · have M:=aX hc M;have S:=S.f5;have S:=S.f5;have S:=S.f3;have S:=S.f3;have S:=S.f9;have S:=S.f9;have S:=S.f9;have S:=S.f9;have S:=S.f9;have S:=S.f9;exact apS M S kZ j3 lV aH aG oA oB trivial
theorem aDA {w0 c g h E R r N ej uf V2 V3 V4 kY j2 kF d27 apU afR afS apV apW apX apY apZ ap0 sZ ug DB}(M:OQ N ej uf V2 V3 V4 ug=some r)(S:Sep c g h [.bx kY [j2],.sl 3 1 j2 kF,.ds d27,.bx apU (ZZA uf afR afS),.bx apV [apW],.sl 3 1 apW apX,.bx apY [apZ],.bx ap0 [.bool V4]])(lV:aw ((rI .i64) g) kF ej)(aKV:aa ah.rep 4 g afR uf.ab)(aKW:aa al.rep 3 g afS uf.aI)(aDB:aw ((rI .i64) g) apX V2)(aDC:aa (rI .i64) 1 g apZ V3)(Br:Sub DB g)(OT:∀{DC:Nat}{ar:ZZD}{ft:Z}{fu:List (ZZE)}{cd:List Nat}{bY:ZZD}{DD:Z}{eg:List (ZZE)}{ey:ZZD}{DE:Z}{j0:Bool}{g2 h2:AH},ug ar bY ey j0=some r→Sub DB g2→Sep c g2 h2 [.bx apU (ZZA uf afR afS),.bx apV [DD],.sl 3 1 DD eg,.bx apY [DE],.bx ap0 [.bool j0],.bx DC [ft],.sl 3 1 ft fu,.ds cd]→aw ((rI .i64) g2) fu ar→aw ((rI .i64) g2) eg bY→aa (rI .i64) 1 g2 DE ey→sZ (ak DC 0) cd h2)(H:JD c R r):Rm w0 E R (ak kY 0) sZ d27 h:=by
 unfold Rm;unfold OQ at M;refine S.aP 0 rfl rfl (S.alloc (l:=[bJ]) (ag rfl rfl) (fun aKX h S=>?_));refine S.cV [j2] [j2] (mE (S.kX 2 rfl)) rfl (ag (S.kX 2 rfl) rfl) (zaa rfl) rfl (fun h S=>?_);refine S.aP 0 rfl rfl ?_;have S:=S.f2;obtain⟨apO,aDD,M⟩:=bind_some M;refine S.aBi lV aDD (fun ap1 aKY S aDE=>?_);have S:=S.f1;refine S.cV [ap1] [ap1] (mE (S.kX 1 rfl)) rfl (ag (S.kX 1 rfl) rfl) (zaa rfl) rfl (fun h S=>?_);have S:=S.f3.f2.f2.f8.f8.f8.f8.f8.t8;exact OT M Br S aDE aDB aDC
theorem aDF {w0:World}{c:Cx}{g h:AH}{E R:ZZF}{r:(ZZD)×Bool}{N:Nat}{ej:ZZD}{v1:ae}{v9 v2:ZZD}{v3:Bool}{kY:Nat}{j2:Z}{kF:List (ZZE)}{av:Nat}{aA az:Z}{gI:Nat}{jQ:Z}{kE:List (ZZE)}{aK:Nat}{gU:Z}{bI:Nat}{d26:List Nat}{sZ:Z→List Nat→W}{ug:(ZZD)→(ZZD)→(ZZD)→Bool→Option ((ZZD)×Bool)}{DB:AH}(M:OS N ej v1 v9 v2 v3 ug=some r)(S:Sep c g h [.bx kY [j2],.sl 3 1 j2 kF,.bx av (ZZA v1 aA az),.bx gI [jQ],.sl 3 1 jQ kE,.bx aK [gU],.bx bI [.bool v3],.ds d26])(lV:aw ((rI .i64) g) kF ej)(aH:aa ah.rep 4 g aA v1.ab)(aG:aa al.rep 3 g az v1.aI)(kZ:aw ((rI .i64) g) kE v9)(j3:aa (rI .i64) 1 g gU v2)(Br:Sub DB g)(OT:∀{DC:Nat}{ar:ZZD}{ft:Z}{fu:List (ZZE)}{cd:List Nat}{bY:ZZD}{DD:Z}{eg:List (ZZE)}{ey:ZZD}{DE:Z}{j0:Bool}{g2 h2:AH},ug ar bY ey j0=some r→Sub DB g2→Sep c g2 h2 [.bx av (ZZA v1 aA az),.bx gI [DD],.sl 3 1 DD eg,.bx aK [DE],.bx bI [.bool j0],.bx DC [ft],.sl 3 1 ft fu,.ds cd]→aw ((rI .i64) g2) fu ar→aw ((rI .i64) g2) eg bY→aa (rI .i64) 1 g2 DE ey→sZ (ak DC 0) cd h2)(H:JD c R r):Rp w0 E R (ak kY 0) (ak av 0) (ak gI 0) (ak aK 0) (ak bI 0) sZ d26 h:=by
 unfold Rp;unfold OS at M;refine S.aP 0 rfl rfl ?_;obtain⟨ia,GC,M⟩:=bind_some M;refine S.mF 1 rfl lV GC (fun apu apv vs afT afU rp=>?_);cases rp;refine S.tU (j:=0) 1 rfl afT afU rfl (S.alloc (l:=[vi 0]) (ag rfl rfl) (fun Jv h S=>?_));refine S.cV [vi ia] [vi ia] rfl rfl (ag rfl rfl) (zaa rfl) rfl (fun h S=>?_);refine S.eA (ZZA v1 aA az) 3 rfl rfl rfl (by decide) (S.aP 0 rfl rfl ?_);obtain⟨jY,Bo,M⟩:=bind_some M;refine V6 N v1 ia aA az S.sub S.ok aH aG Bo (fun g h ap2 S1 DF=>?_);have aH:=aa.mono aH ah.mono S1.bF;have aG:=aa.mono aG al.mono S1.bF;have lV:=aw.mono lV (fun _ _ hh=>(eD .i64) _ _ _ _ S1.bF hh);have kZ:=aw.mono kZ (fun _ _ hh=>(eD .i64) _ _ _ _ S1.bF hh);have j3:=aa.mono j3 (eD .i64) S1.bF;have Br:=Sub.trans Br S1.bF;have S:=S.ou S1;have S:=S.f2.f2.f7.f7.f5.f5.f7.f7.f8;obtain⟨qH,aei,M⟩:=bind_some M;refine Vn (fun(s:(ZZD)×(ZZD)×Bool×(ZZD)) (x:Int×Int)=>xD N s.1 ia v1 s.2.1 s.2.2.1 s.2.2.2 x.1 x.2 (fun f m0 m1 m2 m3=>some ((m0,m1,m2,m3),f))) (fun(s:(ZZD)×(ZZD)×Bool×(ZZD)) (g h:AH) (Γ:List Ob)=>∃(jQ:Z) (kE:List (ZZE)) (gU:Z) (j2:Z) (kF:List (ZZE)),Γ=[.bx gI [jQ],.sl 3 1 jQ kE,.bx Jv [vi ia],.bx av (ZZA v1 aA az),.bx aK [gU],.bx bI [.bool s.2.2.1],.bx kY [j2],.sl 3 1 j2 kF]∧aw ((rI .i64) g) kE s.1∧aa (rI .i64) 1 g gU s.2.1∧aw ((rI .i64) g) kF s.2.2.2∧aa ah.rep 4 g aA v1.ab∧aa al.rep 3 g az v1.aI) DF (fun s g h Γ g' h' hd sb=>by obtain⟨u0,u1,u2,u3,u4,e,z0,z1,z2,z3,z4⟩:=hd;exact⟨u0,u1,u2,u3,u4,e,aw.mono z0 (fun _ _ hh=>(eD .i64) _ _ _ _ sb hh),aa.mono z1 (eD .i64) sb,aw.mono z2 (fun _ _ hh=>(eD .i64) _ _ _ _ sb hh),aa.mono z3 ah.mono sb,aa.mono z4 al.mono sb⟩) S ⟨jQ,kE,gU,j2,kF,rfl,kZ,j3,lV,aH,aG⟩ aei (fun lo n q s x s2 f R g2 h2 Γ2 sub S D1 bm kk=>?_) (fun uG g h Γ2 sg S D1=>?_)
 · obtain⟨jQ,kE,gU,j2,kF,rfl,aDG,V7,aDH,ap3,ap4⟩:=D1;show Ro w0 qd R (ak gI 0) (ak Jv 0) (ak av 0) (ak aK 0) (ak bI 0) (ak kY 0) lo n (vi x.1) (vi x.2) h2;exact aDw bm S aDG ap3 ap4 V7 aDH (Sub.refl g2) (fun e sb S3 aDI aDJ aDK=>by cases e;exact kk _ _ _ sb S3 ⟨_,_,_,_,_,rfl,aDI,aDJ,aDK,aa.mono ap3 ah.mono sb,aa.mono ap4 al.mono sb⟩)
 · obtain⟨aKZ,aK0,aDL,aK1,aK2,rfl,aDM,ap5,aDN,_,_⟩:=D1;have aH:=aa.mono aH ah.mono sg;have aG:=aa.mono aG al.mono sg;have DF:=Bj.mono DF sg;have Br:=Sub.trans Br sg;cases hf:qH.2 with
   | go=>
    rw [hf]at M;have M:=aeI M;refine Vk ?_;have S:=S.f6.f6.f4.f4.f6.f5.f8.f8.t8;exact aDA M S aDN aH aG aDM ap5 Br OT H
   | ret=>
    rw [hf]at M;have M:=aeJ M;refine aeK (S.iH (fun h S=>?_));refine S.aP 4 rfl rfl (S.aP 5 rfl rfl ?_);cases M;exact H _ _ aDL S.bO ap5
   | ex j=>
    rw [hf]at M;cases M
theorem aDO {w0 c g h E R r N v9 v2 v3 gI jQ kE aK gU bI d14}  (M:afF N v9 v2 v3=some r)(S:Sep c g h [.bx gI [jQ],.sl 3 1 jQ kE,.bx aK [gU],.bx bI [.bool v3],.ds d14])(kZ:aw ((rI .i64) g) kE v9)(j3:aa (rI .i64) 1 g gU v2)  (H:JD c R r):Rl w0 E R (ak gI 0) (ak aK 0) (ak bI 0) d14 h:=by
 unfold Rl;unfold afF at M;refine S.aP 0 rfl rfl ?_;have S:=S.f2;refine S.cV [jQ] [jQ] (mE (S.kX 2 rfl)) rfl (ag (S.kX 2 rfl) rfl) (zaa rfl) rfl (fun h S=>?_);have S:=S.f3;refine S.cV [.bool true] [.bool true] rfl rfl (ag rfl rfl) (zaa rfl) rfl (fun h S=>?_);have S:=S.f4;refine S.iH (fun h S=>?_);refine S.aP 1 rfl rfl (S.aP 0 rfl rfl ?_);have S:=S.f3;obtain⟨g,sg,S,afw⟩:=S.fz kZ (eD .i64);cases M;exact H _ _ jQ S.bO afw
theorem aDP {w0 c g h E R r N v1 v9 v2 v3 ej av aA az gI jQ kE aK gU bI kY j2 kF d25 sZ ug DB}(M:afG N v1 v9 v2 v3 ej ug=some r)(S:Sep c g h [.bx av (ZZA v1 aA az),.bx gI [jQ],.sl 3 1 jQ kE,.bx aK [gU],.bx bI [.bool v3],.bx kY [j2],.sl 3 1 j2 kF,.ds d25])(aH:aa ah.rep 4 g aA v1.ab)(aG:aa al.rep 3 g az v1.aI)(kZ:aw ((rI .i64) g) kE v9)(j3:aa (rI .i64) 1 g gU v2)(lV:aw ((rI .i64) g) kF ej)(Br:Sub DB g)(OT:∀{DC:Nat}{ar:ZZD}{ft:Z}{fu:List (ZZE)}{cd:List Nat}{bY:ZZD}{DD:Z}{eg:List (ZZE)}{ey:ZZD}{DE:Z}{j0:Bool}{g2 h2:AH},ug ar bY ey j0=some r→Sub DB g2→Sep c g2 h2 [.bx av (ZZA v1 aA az),.bx gI [DD],.sl 3 1 DD eg,.bx aK [DE],.bx bI [.bool j0],.bx DC [ft],.sl 3 1 ft fu,.ds cd]→aw ((rI .i64) g2) fu ar→aw ((rI .i64) g2) eg bY→aa (rI .i64) 1 g2 DE ey→sZ (ak DC 0) cd h2)(H:JD c R r):Kx w0 E R (ak av 0) (ak gI 0) (ak aK 0) (ak bI 0) sZ (ak kY 0) d25 h:=by
 unfold Kx;unfold afG at M;refine S.aP 5 rfl rfl (S.Nt 6 rfl lV (kT.2 (bR (fun hc=>?_) (fun hc=>?_))))
 · have M:=aV hc M;have S:=S.f7.f5.f5.f5.f5.f5.f7.f7;exact aDF M S lV aH aG kZ j3 Br OT H
 · have M:=aX hc M;have S:=S.f7.f5.f5.f5.f5.t5;exact aDO M S kZ j3 H
theorem aDQ {w0 c E R r N v1 av aA az gI aK bI}   (H:JD c R r):∀(n:Nat){v9 v2:ZZD}{v3:Bool}{ej:ZZD}{jQ:Z}{kE:List (ZZE)}{gU:Z}{kY:Nat}{j2:Z}{kF:List (ZZE)}{d25:List Nat}{g h:AH},Bq N v1 n v9 v2 v3 ej=some r→Sep c g h [.bx av (ZZA v1 aA az),.bx gI [jQ],.sl 3 1 jQ kE,.bx aK [gU],.bx bI [.bool v3],.bx kY [j2],.sl 3 1 j2 kF,.ds d25]→aa ah.rep 4 g aA v1.ab→aa al.rep 3 g az v1.aI→aw ((rI .i64) g) kE v9→aa (rI .i64) 1 g gU v2→aw ((rI .i64) g) kF ej→gg (α:=(Z)×List Nat) (fun k a=>Kx w0 E R (ak av 0) (ak gI 0) (ak aK 0) (ak bI 0) (fun b0 q=>k ((b0),q)) a.1 a.2) n ((ak kY 0),d25) h:=by
 intro n
 induction n with
 | zero=>
  intro v9 v2 v3 ej jQ kE gU kY j2 kF d25 g h M S aH aG kZ j3 lV ;unfold Bq at M;cases M
 | succ n ih=>
  intro v9 v2 v3 ej jQ kE gU kY j2 kF d25 g h M S aH aG kZ j3 lV ;exact aDP M S aH aG kZ j3 lV  (Sub.refl g) (fun M2 sub S2 Bk xE aDR=>ih M2 S2 (aa.mono aH ah.mono sub) (aa.mono aG al.mono sub) xE aDR Bk) H
theorem ap6 {w0 g h Q r N x0 cw cx}(M:Ds N x0=some r)(sg:Sub g h)(ok:h.Ok)(cg:aa ah.rep 4 g cw x0.ab)(cz:aa al.rep 3 g cx x0.aI)(H:JD ⟨g,h,[]⟩ (fun v=>Q (.ret v)) r):WF PP w0 Rq [(.agg ⟨(ZZA x0 cw cx)⟩)] h Q:=by
 refine atC _ ?_;have S:=Sep.start sg ok;unfold ais;unfold Ds at M;have S:Sep _ g h [.ds ([]:List Nat)]:=S.Vm;refine S.box (ZZA x0 cw cx) rfl (ag rfl (ag rfl (ag rfl (ag rfl (ag rfl (ag cg.one (ag cz.one rfl))))))) (fun jN h S=>?_);refine S.alloc (l:=[bJ]) (ag rfl rfl) (fun sE h S=>?_);refine S.alloc (l:=[.bool false]) (ag rfl rfl) (fun vo h S=>?_);refine S.tp [[(vi (-1))]] (rn (m:=[(vi (-1))]) (l2:=[(vi (-1))]) rfl rfl (zaa rfl) rfl rfl) rfl (by decide) (vn rfl tq) (ag rfl rfl) (fun GK h S=>?_);have JG:aw ((rI .i64) g) [[(vi (-1))]] [-1]:=(aw.push aw.nil (show(rI .i64) g [(vi (-1))] (-1)from rfl));refine aQ.2 (S.aP 3 rfl rfl (cg.len ?_));obtain⟨g,sg,S,Bs⟩:=S.fz JG (eD .i64);have cg:=aa.mono cg ah.mono sg;have cz:=aa.mono cz al.mono sg;obtain⟨eR,mL,M⟩:=bind_some M;refine aDS [-1] (x0.ab.length:Int) GK S.sub S.ok Bs mL (fun g h V8 ap7 S1 ap8=>?_);have cg:=aa.mono cg ah.mono S1.bF;have cz:=aa.mono cz al.mono S1.bF;have Bs:=aa.mono Bs (eD .i64) S1.bF;have S:=S.aow S1;refine S.alloc (l:=[bJ]) (ag rfl rfl) (fun Nu h S=>?_);refine S.cV [V8] [V8] (mE (S.kX 1 rfl)) rfl (ag (S.kX 1 rfl) rfl) (zaa rfl) rfl (fun h S=>?_);refine S.aP 0 rfl rfl ?_;obtain⟨kD,vt,M⟩:=bind_some M;refine S.mF 1 rfl ap8 vt (fun aDT aDU vs aph aDV rp=>?_);cases rp;have S:=S.f1;refine S.Bb (j:=0) [vi 0] aph aDV rfl rfl (ag rfl rfl) (by decide) (fun h S=>?_);have Ov:aw ((rI .i64) g) (ap7.set (0:Int).toNat [vi 0]) (eR.set (0:Int).toNat 0):=aw.set ap8 (show(rI .i64) g [vi 0] 0 from rfl) (0:Int).toNat;have S:Sep _ g h [.sl 3 1 V8 (ap7.set (0:Int).toNat [vi 0]),.bx Nu [V8],.bx vo [.bool false],.bx sE [bJ],.bx jN (ZZA x0 cw cx),.ds ([]:List Nat)]:=S;refine S.tp [[vi 0]] (rn (m:=[vi 0]) (l2:=[vi 0]) rfl rfl (zaa rfl) rfl rfl) rfl (by decide) (vn rfl tq) (ag rfl rfl) (fun afm h S=>?_);have VY:aw ((rI .i64) g) [[vi 0]] [0]:=(aw.push aw.nil (show(rI .i64) g [vi 0] 0 from rfl));refine S.alloc (l:=[bJ]) (ag rfl rfl) (fun aDW h S=>?_);refine S.cV [afm] [afm] (mE (S.kX 1 rfl)) rfl (ag (S.kX 1 rfl) rfl) (zaa rfl) rfl (fun h S=>?_);have S:=S.f7.f2.f2.f5.f6.f5.f6.f7;exact⟨N,aDQ  H _ M S cg cz Ov aa.nil VY⟩
def V9 (N:Nat) (v4:ZZD)  :Option ((ZZD)×Int):=
 some (v4,0)
def Wa (N:Nat) (v1:ae)  :Option ((ZZD)×Int):=
(Ds N v1).bind fun fq=>
 bif (!fq.2)then(
 some (([]:ZZD),12))else(
 V9 N fq.1)
def FY (N:Nat) (x0:ae):Option ((ZZD)×Int):=
(Dc N x0).bind fun cv=>
 bif (!cv)then(
 some (([]:ZZD),1))else(
 Wa N x0)
abbrev afV (c:Cx) (R:ZZF) (r:(ZZD)×Int):Prop:=∀(g' h':AH) (w1:Z),Sep c g' h' []→aa (rI .i64) 1 g' w1 r.1→R (.tuple ⟨[w1,vi r.2]⟩) h'
theorem aDX {w0 c g h E R r N v4 afW}  (M:V9 N v4=some r)(S:Sep c g h [])(aDY:aa (rI .i64) 1 g afW v4)  (H:afV c R r):ZH w0 E R afW h:=by
 unfold ZH;unfold V9 at M;cases M;exact H _ _ afW S.bO aDY
theorem aDZ {w0 c g h E R r N v1 av aA az}  (M:Wa N v1=some r)(S:Sep c g h [.bx av (ZZA v1 aA az)])(aH:aa ah.rep 4 g aA v1.ab)(aG:aa al.rep 3 g az v1.aI)  (H:afV c R r):ZI w0 E R (ak av 0) h:=by
 unfold ZI;unfold Wa at M;refine S.eA (ZZA v1 aA az) 0 rfl rfl rfl (by decide) ?_;obtain⟨fq,Be,M⟩:=bind_some M;refine ap6 Be S.sub S.ok aH aG (fun g h UY S1 zh=>?_);have aH:=aa.mono aH ah.mono S1.bF;have aG:=aa.mono aG al.mono S1.bF;have S:=S.ou S1;refine(fk rfl).2 ?_;refine(fk rfl).2 ?_;refine dZ.2 (bR (fun hc=>?_) (fun hc=>?_))
 · have M:=aV hc M;cases M;exact H _ _ bJ S.bO aa.nil
 · have M:=aX hc M;have S:=S.t0;exact aDX M S zh H
theorem aoh {w0 g h Q r N x0 cw cx}(M:FY N x0=some r)(sg:Sub g h)(ok:h.Ok)(cg:aa ah.rep 4 g cw x0.ab)(cz:aa al.rep 3 g cx x0.aI)(H:afV ⟨g,h,[]⟩ (fun v=>Q (.ret v)) r):WF PP w0 RY [(.agg ⟨(ZZA x0 cw cx)⟩)] h Q:=by
 refine atT _ ?_;have S:=Sep.start sg ok;unfold aiC;unfold FY at M;refine S.box (ZZA x0 cw cx) rfl (ag rfl (ag rfl (ag rfl (ag rfl (ag rfl (ag cg.one (ag cz.one rfl))))))) (fun jN h S=>?_);refine S.eA (ZZA x0 cw cx) 0 rfl rfl rfl (by decide) ?_;obtain⟨cv,nS,M⟩:=bind_some M;refine Vs nS S.sub S.ok cg cz (fun _ h  S1  =>?_);have S:=S.dz S1;refine dZ.2 (bR (fun hc=>?_) (fun hc=>?_))
 · have M:=aV hc M;cases M;exact H _ _ bJ S.bO aa.nil
 · have M:=aX hc M;exact aDZ M S cg cz H
def Wb {ρ:Type}(N:Nat) (v8:List Bool) (fp:Int) (v11:ZZD) (afX:Int→Int→Int→Option Bool) (OU:Int) (pW:List Bool) (pt:ae) (gH:Fl→(List Bool)→(List Bool)→(ZZD)→Option (ρ)):Option (ρ):=
(ix v8 fp).bind fun j8=>
 bif (!j8)then(
(ix v8 fp).bind fun GL=>
 gu (decide (v11.length+[fp].length≤1048576)) (
 gH .go pW (v8.set fp.toNat true) (v11++[fp])))else(
 gH .go pW v8 v11)
def OV {ρ:Type}(N:Nat) (v2:Int→Int→Int→Option Bool) (du:Int) (v3:List Bool) (v8:List Bool) (v11:ZZD) (sH:ae) (fp:Int) (uM:Int) (gH:Fl→(List Bool)→(List Bool)→(ZZD)→Option ρ):Option ρ:=
(v2 du fp uM).bind fun Dr=>
 bif (!Dr)then(
 gH .ret ([]:List Bool) v8 v11)else(
 Wb N v8 fp v11 v2 du v3 sH gH)
def JH (N:Nat) (v11:ZZD) (v1:ae) (v2:Int→Int→Int→Option Bool) (v3:List Bool) (v8:List Bool) (Bt:(ZZD)→(List Bool)→(List Bool)→Option ((List Bool))):Option ((List Bool)):=
(ix v11 (bN .i64 ((v11.length:Int)-1))).bind fun DG=>
(vm v11 0 (bN .i64 ((v11.length:Int)-1))).bind fun pU=>
(Bp N v1 DG).bind fun jY=>
(rq (fun(s:(List Bool)×(List Bool)×(ZZD)) (x:Int×Int)=>OV N v2 DG s.1 s.2.1 s.2.2 v1 x.1 x.2 (fun f m0 m1 m2=>some ((m0,m1,m2),f))) jY (v3,v8,pU)).bind fun GM=>
 Ge GM.2 (
 Bt GM.1.2.2 GM.1.1 GM.1.2.1) (
 some GM.1.1) (fun _=>none)
def Wc (N:Nat) (v8:List Bool) (v3:List Bool)  :Option ((List Bool)):=
 some v8
def OW (N:Nat) (v11:ZZD) (v1:ae) (v2:Int→Int→Int→Option Bool) (v3:List Bool) (v8:List Bool) (Bt:(ZZD)→(List Bool)→(List Bool)→Option ((List Bool))):Option ((List Bool)):=
 bif (decide (0<(v11.length:Int)))then(
 JH N v11 v1 v2 v3 v8 Bt)else(
 Wc N v8 v3)
def JI (N:Nat) (v1:ae) (v2:Int→Int→Int→Option Bool)  :Nat→(ZZD)→(List Bool)→(List Bool)→Option ((List Bool)) | 0,_,_,_=>none | n+1,v11,v3,v8=>OW N v11 v1 v2 v3 v8  (fun di j0 pX=>JI N v1 v2 n di j0 pX)
def OX (N:Nat) (x0:ae) (x1:Int→Int→Int→Option Bool):Option ((List Bool)):=
 gu (decide (0≤(x0.ab.length:Int))&&decide ((x0.ab.length:Int)≤65536)) (
(ix (List.replicate (x0.ab.length:Int).toNat false) 0).bind fun mn=>
 JI N x0 x1 N [0] ([]:List Bool) ((List.replicate (x0.ab.length:Int).toNat false).set (0:Int).toNat true))
abbrev OY (c:Cx) (R:ZZF) (r:(List Bool)):Prop:=∀(g' h':AH) (w1:Z),Sep c g' h' []→aa rB 1 g' w1 r→R w1 h'
theorem aD0 {ρ:Type}{w0:World}{c:Cx}{g h:AH}{E R:ZZF}{r:ρ}{N:Nat}{v8:List Bool}{fp:Int}{v11:ZZD}{afX:Int→Int→Int→Option Bool}{OU:Int}{pW:List Bool}{pt:ae}{mo:Nat}{kG:Z}{lI:List (ZZE)}{nX:Nat}{nj:Z}{nn:List (ZZE)}{vu:Nat}{vv:LO}{zA:List Nat}{afY:Nat}{Wd:Z}{afZ zB:Nat}{af0:Z}{af1:Nat}{We Wf:Z}{gH:Fl→(List Bool)→(List Bool)→(ZZD)→Option (ρ)}{qI:AH}(M:Wb N v8 fp v11 afX OU pW pt gH=some r)(S:Sep c g h [.bx mo [kG],.sl 4 1 kG lI,.bx nX [nj],.sl 3 1 nj nn,.lp vu vv .busy none,.ds zA,.bx afY [Wd],.bx afZ [vi OU],.bx zB [af0],.bx af1 (ZZA pt We Wf)])(pv:aw (rB g) lI v8)(pY:aw ((rI .i64) g) nn v11)(aK3:rz w0 g Wd afX)(ap9:aa rB 1 g af0 pW)(aK4:aa ah.rep 4 g We pt.ab)(aK5:aa al.rep 3 g Wf pt.aI)(oA:Sub qI g)(oB:∀{f:Fl}{j0:List Bool}{xF:Z}{pX:List Bool}{xG:Z}{xJ:List (ZZE)}{uh:ZZD}{OZ:Z}{O0:List (ZZE)}{g2 h2:AH},gH f j0 pX uh=some r→Sub qI g2→Sep c g2 h2 [.lp vu vv f.st f.pd,.ds zA,.bx afY [Wd],.bx afZ [vi OU],.bx zB [xF],.bx mo [xG],.sl 4 1 xG xJ,.bx nX [OZ],.sl 3 1 OZ O0,.bx af1 (ZZA pt We Wf)]→aa rB 1 g2 xF j0→aw (rB g2) xJ pX→aw ((rI .i64) g2) O0 uh→R (.bool f.on) h2)(H:True):Sr w0 E R (ak mo 0) (vi fp) (ak nX 0) vv vu h:=by
 unfold Sr;unfold Wb at M;refine S.aP 0 rfl rfl ?_;obtain⟨j8,F9,M⟩:=bind_some M;refine S.mF 1 rfl pv F9 (fun aps apt vs afp afq rp=>?_);cases rp;refine S.tU (j:=0) 1 rfl afp afq rfl (dZ.2 (bR (fun hc=>?_) (fun hc=>?_)))
 · have M:=aV hc M;refine S.aP 0 rfl rfl ?_;obtain⟨GL,O1,M⟩:=bind_some M;refine S.mF 1 rfl pv O1 (fun aAI aK6 vs aD1 aD2 rp=>?_);cases rp;have S:=S.f1;refine S.Bb (j:=0) [.bool true] aD1 aD2 rfl rfl (ag rfl rfl) (by decide) (fun h S=>?_);have aD3:aw (rB g) (lI.set fp.toNat [.bool true]) (v8.set fp.toNat true):=aw.set pv (show rB g [.bool true] true from rfl) fp.toNat;have S:Sep _ g h [.sl 4 1 kG (lI.set fp.toNat [.bool true]),.bx mo [kG],.bx nX [nj],.sl 3 1 nj nn,.lp vu vv .busy none,.ds zA,.bx afY [Wd],.bx afZ [vi OU],.bx zB [af0],.bx af1 (ZZA pt We Wf)]:=S;refine S.aP 2 rfl rfl (S.tp [[vi fp]] (rn (m:=[vi fp]) (l2:=[vi fp]) rfl rfl (zaa rfl) rfl rfl) rfl (by decide) (vn rfl tq) (ag rfl rfl) (fun aK7 h S=>?_));have af2:aw ((rI .i64) g) [[vi fp]] [fp]:=(aw.push aw.nil (show(rI .i64) g [vi fp] fp from rfl));have S:=S.f4;obtain⟨aD4,M⟩:=nE M;refine S.app (S.rd 1 rfl) (by rw [pY.1,af2.1];exact aD4) (by decide) rfl (nF (rY .i64) af2) (nF (rY .i64) pY) (fun aqa h S=>?_);have aD5:aw ((rI .i64) g) (nn++[[vi fp]]) (v11++[fp]):=aw.append pY af2;have S:=S.f4;refine S.cV [aqa] [aqa] (mE (S.kX 1 rfl)) rfl (ag (S.kX 1 rfl) rfl) (zaa rfl) rfl (fun h S=>?_);have S:=S.f5;refine S.lg (fun h S=>?_);have S:=S.f10.f3.f3.f5.f6.f10.f10.f10.f10.f9.t10;exact oB M oA S ap9 aD3 aD5
 · have M:=aX hc M;have S:=S.f4;refine S.lg (fun h S=>?_);have S:=S.f9.f5.f5.f5.f5.f9.f9.f9.f9.f9;exact oB M oA S ap9 pv pY
theorem aD6 {ρ:Type}{w0:World}{c:Cx}{g h:AH}{E R:ZZF}{r:ρ}{N:Nat}{v2:Int→Int→Int→Option Bool}{du:Int}{v3 v8:List Bool}{v11:ZZD}{sH:ae}{fp uM:Int}{aK:Nat}{gU:Z}{af3 bI:Nat}{nY:Z}{mo:Nat}{kG:Z}{lI:List (ZZE)}{nX:Nat}{nj:Z}{nn:List (ZZE)}{aqb:Nat}{af4 af5:Z}{n_:Nat}{o_:LO}{d_:List Nat}{gH:Fl→(List Bool)→(List Bool)→(ZZD)→Option ρ}{qI:AH}(M:OV N v2 du v3 v8 v11 sH fp uM gH=some r)(S:Sep c g h [.lp n_ o_ .ready none,.ds d_,.bx aK [gU],.bx af3 [vi du],.bx bI [nY],.bx mo [kG],.sl 4 1 kG lI,.bx nX [nj],.sl 3 1 nj nn,.bx aqb (ZZA sH af4 af5)])(j3:rz w0 g gU v2)(wx:aa rB 1 g nY v3)(pv:aw (rB g) lI v8)(pY:aw ((rI .i64) g) nn v11)(aD7:aa ah.rep 4 g af4 sH.ab)(aD8:aa al.rep 3 g af5 sH.aI)(oA:Sub qI g)(oB:∀{f:Fl}{j0:List Bool}{xF:Z}{pX:List Bool}{xG:Z}{xJ:List (ZZE)}{uh:ZZD}{OZ:Z}{O0:List (ZZE)}{g2 h2:AH},gH f j0 pX uh=some r→Sub qI g2→Sep c g2 h2 [.lp n_ o_ f.st f.pd,.ds d_,.bx aK [gU],.bx af3 [vi du],.bx bI [xF],.bx mo [xG],.sl 4 1 xG xJ,.bx nX [OZ],.sl 3 1 OZ O0,.bx aqb (ZZA sH af4 af5)]→aa rB 1 g2 xF j0→aw (rB g2) xJ pX→aw ((rI .i64) g2) O0 uh→R (.bool f.on) h2):Ss w0 E R (ak aK 0) (ak af3 0) (ak bI 0) (ak mo 0) (ak nX 0) o_ n_ (vi fp) (vi uM) h:=by
 unfold Ss;unfold OV at M;refine S.wO (S.rQ (fun h S=>?_));refine S.aP 2 rfl rfl (S.aP 3 rfl rfl ?_);obtain⟨Dr,JF,M⟩:=bind_some M;refine j3.2 du fp uM _ _ _ _ _ (Sub.refl _) S.sub S.ok  JF (fun _ h  S1  =>?_);have S:=S.dz S1;refine dZ.2 (bR (fun hc=>?_) (fun hc=>?_))
 · have M:=aV hc M;have S:=S.f4;refine S.cV [bJ] [bJ] (mE rfl) rfl (ag rfl rfl) (zaa rfl) rfl (fun h S=>?_);have S:=S.f1;refine S.lg (fun h S=>?_);have S:=S.f9.f9.f9.f9.f9.f6.f9.f9.f9.f9;exact oB M oA S aa.nil pv pY
 · have M:=aX hc M;have S:=S.f9.f5.f5.f5.f5.f5.f9.f9.f9.f9;exact aD0 M S pv pY j3 wx aD7 aD8 oA oB trivial
theorem aD9 {w0:World}{c:Cx}{g h:AH}{E R:ZZF}{r:(List Bool)}{N:Nat}{v11:ZZD}{v1:ae}{v2:Int→Int→Int→Option Bool}{v3 v8:List Bool}{nX:Nat}{nj:Z}{nn:List (ZZE)}{av:Nat}{aA az:Z}{aK:Nat}{gU:Z}{bI:Nat}{nY:Z}{mo:Nat}{kG:Z}{lI:List (ZZE)}{d22:List Nat}{Ad:List Nat→W}{Bt:(ZZD)→(List Bool)→(List Bool)→Option ((List Bool))}{O2:AH}(M:JH N v11 v1 v2 v3 v8 Bt=some r)(S:Sep c g h [.bx nX [nj],.sl 3 1 nj nn,.bx av (ZZA v1 aA az),.bx aK [gU],.bx bI [nY],.bx mo [kG],.sl 4 1 kG lI,.ds d22])(pY:aw ((rI .i64) g) nn v11)(aH:aa ah.rep 4 g aA v1.ab)(aG:aa al.rep 3 g az v1.aI)(j3:rz w0 g gU v2)(wx:aa rB 1 g nY v3)(pv:aw (rB g) lI v8)(GN:Sub O2 g)(af6:∀{ar:List Nat}{di:ZZD}{O3:Z}{fK:List (ZZE)}{j0:List Bool}{xF:Z}{pX:List Bool}{xG:Z}{xJ:List (ZZE)}{g2 h2:AH},Bt di j0 pX=some r→Sub O2 g2→Sep c g2 h2 [.bx nX [O3],.sl 3 1 O3 fK,.bx av (ZZA v1 aA az),.bx aK [gU],.bx bI [xF],.bx mo [xG],.sl 4 1 xG xJ,.ds ar]→aw ((rI .i64) g2) fK di→aa rB 1 g2 xF j0→aw (rB g2) xJ pX→Ad ar h2)(H:OY c R r):Su w0 E R (ak nX 0) (ak av 0) (ak aK 0) (ak bI 0) (ak mo 0) Ad d22 h:=by
 unfold Su;unfold JH at M;refine S.aP 0 rfl rfl (S.aP 0 rfl rfl (S.Nt 1 rfl pY (lB.2 ?_)));obtain⟨DG,aEa,M⟩:=bind_some M;refine S.mF 1 rfl pY aEa (fun aAP aK8 vs aEb aEc rp=>?_);cases rp;refine S.tU (j:=0) 1 rfl aEb aEc rfl (S.alloc (l:=[vi 0]) (ag rfl rfl) (fun af7 h S=>?_));refine S.cV [vi DG] [vi DG] rfl rfl (ag rfl rfl) (zaa rfl) rfl (fun h S=>?_);refine S.aP 1 rfl rfl (S.aP 1 rfl rfl (S.Nt 2 rfl pY (lB.2 ?_)));have S:=S.f2;obtain⟨pU,Gm,M⟩:=bind_some M;refine S.aeH pY Gm (fun af8 aEd S af9=>?_);have S:=S.f2;refine S.cV [af8] [af8] (mE (S.kX 1 rfl)) rfl (ag (S.kX 1 rfl) rfl) (zaa rfl) rfl (fun h S=>?_);refine S.eA (ZZA v1 aA az) 3 rfl rfl rfl (by decide) (S.aP 2 rfl rfl ?_);obtain⟨jY,Bo,M⟩:=bind_some M;refine V6 N v1 DG aA az S.sub S.ok aH aG Bo (fun g h ap2 S1 DF=>?_);have aH:=aa.mono aH ah.mono S1.bF;have aG:=aa.mono aG al.mono S1.bF;have af9:=aw.mono af9 (fun _ _ hh=>(eD .i64) _ _ _ _ S1.bF hh);have j3:=rz.mono j3 S1.bF;have wx:=aa.mono wx lS S1.bF;have pv:=aw.mono pv (fun _ _ hh=>lS _ _ _ _ S1.bF hh);have GN:=Sub.trans GN S1.bF;have S:=S.ou S1;have S:=S.f3.f2.f2.f7.f7.f7.f6.f7.f8;obtain⟨GM,GH,M⟩:=bind_some M;refine Vn (fun(s:(List Bool)×(List Bool)×(ZZD)) (x:Int×Int)=>OV N v2 DG s.1 s.2.1 s.2.2 v1 x.1 x.2 (fun f m0 m1 m2=>some ((m0,m1,m2),f))) (fun(s:(List Bool)×(List Bool)×(ZZD)) (g h:AH) (Γ:List Ob)=>∃(nY:Z) (kG:Z) (lI:List (ZZE)) (nj:Z) (nn:List (ZZE)),Γ=[.bx aK [gU],.bx af7 [vi DG],.bx bI [nY],.bx mo [kG],.sl 4 1 kG lI,.bx nX [nj],.sl 3 1 nj nn,.bx av (ZZA v1 aA az)]∧aa rB 1 g nY s.1∧aw (rB g) lI s.2.1∧aw ((rI .i64) g) nn s.2.2∧rz w0 g gU v2∧aa ah.rep 4 g aA v1.ab∧aa al.rep 3 g az v1.aI) DF (fun s g h Γ g' h' hd sb=>by obtain⟨u0,u1,u2,u3,u4,e,z0,z1,z2,z3,z4,z5⟩:=hd;exact⟨u0,u1,u2,u3,u4,e,aa.mono z0 lS sb,aw.mono z1 (fun _ _ hh=>lS _ _ _ _ sb hh),aw.mono z2 (fun _ _ hh=>(eD .i64) _ _ _ _ sb hh),rz.mono z3 sb,aa.mono z4 ah.mono sb,aa.mono z5 al.mono sb⟩) S ⟨nY,kG,lI,af8,aEd,rfl,wx,pv,af9,j3,aH,aG⟩ GH (fun lo n q s x s2 f R g2 h2 Γ2 sub S D1 bm kk=>?_) (fun uN g h Γ2 sg S D1=>?_)
 · obtain⟨nY,kG,lI,nj,nn,rfl,aEe,aEf,aEg,V7,aqc,aqd⟩:=D1;show Ss w0 qd R (ak aK 0) (ak af7 0) (ak bI 0) (ak mo 0) (ak nX 0) lo n (vi x.1) (vi x.2) h2;exact aD6 bm S V7 aEe aEf aEg aqc aqd (Sub.refl g2) (fun e sb S3 aEh aEi aEj=>by cases e;exact kk _ _ _ sb S3 ⟨_,_,_,_,_,rfl,aEh,aEi,aEj,rz.mono V7 sb,aa.mono aqc ah.mono sb,aa.mono aqd al.mono sb⟩)
 · obtain⟨apF,aK9,aLa,aCQ,aLb,rfl,aqe,afz,aEk,_,_,_⟩:=D1;have aH:=aa.mono aH ah.mono sg;have aG:=aa.mono aG al.mono sg;have DF:=Bj.mono DF sg;have j3:=rz.mono j3 sg;have GN:=Sub.trans GN sg;cases hf:GM.2 with
   | go=>
    rw [hf]at M;have M:=aeI M;refine Vk ?_;have S:=S.f5.f5.f5.f4.f8.f8.f8.t8;exact af6 M GN S aEk aqe afz
   | ret=>
    rw [hf]at M;have M:=aeJ M;refine aeK (S.iH (fun h S=>?_));refine S.aP 2 rfl rfl ?_;cases M;exact H _ _ apF S.bO aqe
   | ex j=>
    rw [hf]at M;cases M
theorem aEl {w0 c g h E R r N v8 v3 mo kG lI bI nY d16}  (M:Wc N v8 v3=some r)(S:Sep c g h [.bx mo [kG],.sl 4 1 kG lI,.bx bI [nY],.ds d16])(pv:aw (rB g) lI v8)(wx:aa rB 1 g nY v3)  (H:OY c R r):Sq w0 E R (ak mo 0) (ak bI 0) d16 h:=by
 unfold Sq;unfold Wc at M;refine S.aP 0 rfl rfl ?_;have S:=S.f2;refine S.cV [kG] [kG] (mE (S.kX 2 rfl)) rfl (ag (S.kX 2 rfl) rfl) (zaa rfl) rfl (fun h S=>?_);have S:=S.f3;refine S.iH (fun h S=>?_);refine S.aP 0 rfl rfl ?_;have S:=S.f2;obtain⟨g,sg,S,aEm⟩:=S.fz pv lS;cases M;exact H _ _ kG S.bO aEm
theorem aEn {w0 c g h E R r N v11 v1 v2 v3 v8 nX nj nn av aA az aK gU bI nY mo kG lI d21 Ad Bt O2}(M:OW N v11 v1 v2 v3 v8 Bt=some r)(S:Sep c g h [.bx nX [nj],.sl 3 1 nj nn,.bx av (ZZA v1 aA az),.bx aK [gU],.bx bI [nY],.bx mo [kG],.sl 4 1 kG lI,.ds d21])(pY:aw ((rI .i64) g) nn v11)(aH:aa ah.rep 4 g aA v1.ab)(aG:aa al.rep 3 g az v1.aI)(j3:rz w0 g gU v2)(wx:aa rB 1 g nY v3)(pv:aw (rB g) lI v8)(GN:Sub O2 g)(af6:∀{ar:List Nat}{di:ZZD}{O3:Z}{fK:List (ZZE)}{j0:List Bool}{xF:Z}{pX:List Bool}{xG:Z}{xJ:List (ZZE)}{g2 h2:AH},Bt di j0 pX=some r→Sub O2 g2→Sep c g2 h2 [.bx nX [O3],.sl 3 1 O3 fK,.bx av (ZZA v1 aA az),.bx aK [gU],.bx bI [xF],.bx mo [xG],.sl 4 1 xG xJ,.ds ar]→aw ((rI .i64) g2) fK di→aa rB 1 g2 xF j0→aw (rB g2) xJ pX→Ad ar h2)(H:OY c R r):KQ w0 E R (ak nX 0) (ak av 0) (ak aK 0) (ak bI 0) (ak mo 0) Ad d21 h:=by
 unfold KQ;unfold OW at M;refine S.aP 0 rfl rfl (S.Nt 1 rfl pY (kT.2 (bR (fun hc=>?_) (fun hc=>?_))))
 · have M:=aV hc M;exact aD9 M S pY aH aG j3 wx pv GN af6 H
 · have M:=aX hc M;have S:=S.f7.f5.f7.f7.t4;exact aEl M S pv wx H
theorem aEo {w0 c E R r N v1 v2 nX av aA az aK gU bI mo}   (H:OY c R r):∀(n:Nat){v11:ZZD}{v3 v8:List Bool}{nj:Z}{nn:List (ZZE)}{nY kG:Z}{lI:List (ZZE)}{d21:List Nat}{g h:AH},JI N v1 v2 n v11 v3 v8=some r→Sep c g h [.bx nX [nj],.sl 3 1 nj nn,.bx av (ZZA v1 aA az),.bx aK [gU],.bx bI [nY],.bx mo [kG],.sl 4 1 kG lI,.ds d21]→aw ((rI .i64) g) nn v11→aa ah.rep 4 g aA v1.ab→aa al.rep 3 g az v1.aI→rz w0 g gU v2→aa rB 1 g nY v3→aw (rB g) lI v8→gg (α:=(Unit)×List Nat) (fun k a=>KQ w0 E R (ak nX 0) (ak av 0) (ak aK 0) (ak bI 0) (ak mo 0) (fun  q=>k ((),q)) a.2) n ((),d21) h:=by
 intro n
 induction n with
 | zero=>
  intro v11 v3 v8 nj nn nY kG lI d21 g h M S pY aH aG j3 wx pv ;unfold JI at M;cases M
 | succ n ih=>
  intro v11 v3 v8 nj nn nY kG lI d21 g h M S pY aH aG j3 wx pv ;exact aEn M S pY aH aG j3 wx pv  (Sub.refl g) (fun M2 sub S2 Bc aEp aEq=>ih M2 S2 Bc (aa.mono aH ah.mono sub) (aa.mono aG al.mono sub) (rz.mono j3 sub) aEp aEq) H
theorem aEr {w0 g h Q r N x0 x1 cw cx bV}(M:OX N x0 x1=some r)(sg:Sub g h)(ok:h.Ok)(cg:aa ah.rep 4 g cw x0.ab)(cz:aa al.rep 3 g cx x0.aI)(cn:rz w0 g bV x1)(H:OY ⟨g,h,[]⟩ (fun v=>Q (.ret v)) r):WF PP w0 aaO [(.agg ⟨(ZZA x0 cw cx)⟩),bV] h Q:=by
 refine auc _ _ ?_;have S:=Sep.start sg ok;unfold aiS;unfold OX at M;have S:Sep _ g h [.ds ([]:List Nat)]:=S.Vm;refine S.box (ZZA x0 cw cx) rfl (ag rfl (ag rfl (ag rfl (ag rfl (ag rfl (ag cg.one (ag cz.one rfl))))))) (fun jN h S=>?_);refine S.box [bV] (mE cn.1) (ag cn.1 rfl) (fun sE h S=>?_);refine S.alloc (l:=[bJ]) (ag rfl rfl) (fun vo h S=>?_);refine aQ.2 (S.aP 2 rfl rfl (cg.len ?_));obtain⟨aga,M⟩:=nE M;refine S.Nw aga rfl (ag rfl rfl) (fun GK h S=>?_);have JG:aw (rB g) (List.replicate (x0.ab.length:Int).toNat [.bool false]) (List.replicate (x0.ab.length:Int).toNat false):=aw.I8 (show rB g [.bool false] false from rfl) _;refine S.alloc (l:=[bJ]) (ag rfl rfl) (fun b_7 h S=>?_);refine S.cV [GK] [GK] (mE (S.kX 1 rfl)) rfl (ag (S.kX 1 rfl) rfl) (zaa rfl) rfl (fun h S=>?_);refine S.tp [[vi 0]] (rn (m:=[vi 0]) (l2:=[vi 0]) rfl rfl (zaa rfl) rfl rfl) rfl (by decide) (vn rfl tq) (ag rfl rfl) (fun Wg h S=>?_);have A_9:aw ((rI .i64) g) [[vi 0]] [0]:=(aw.push aw.nil (show(rI .i64) g [vi 0] 0 from rfl));refine S.alloc (l:=[bJ]) (ag rfl rfl) (fun aqf h S=>?_);refine S.cV [Wg] [Wg] (mE (S.kX 1 rfl)) rfl (ag (S.kX 1 rfl) rfl) (zaa rfl) rfl (fun h S=>?_);refine S.aP 2 rfl rfl ?_;obtain⟨mn,wv,M⟩:=bind_some M;refine S.mF 3 rfl JG wv (fun aLc aLd vs aoY aEs rp=>?_);cases rp;have S:=S.f3;refine S.Bb (j:=0) [.bool true] aoY aEs rfl rfl (ag rfl rfl) (by decide) (fun h S=>?_);have aEt:aw (rB g) ((List.replicate (x0.ab.length:Int).toNat [.bool false]).set (0:Int).toNat [.bool true]) ((List.replicate (x0.ab.length:Int).toNat false).set (0:Int).toNat true):=aw.set JG (show rB g [.bool true] true from rfl) (0:Int).toNat;have S:Sep _ g h [.sl 4 1 GK ((List.replicate (x0.ab.length:Int).toNat [.bool false]).set (0:Int).toNat [.bool true]),.bx aqf [Wg],.sl 3 1 Wg [[vi 0]],.bx b_7 [GK],.bx vo [bJ],.bx sE [bV],.bx jN (ZZA x0 cw cx),.ds ([]:List Nat)]:=S;have S:=S.f7.f1.f4.f5.f6.f7.f7.f7;exact⟨N,aEo  H _ M S A_9 cg cz cn aa.nil aEt⟩
def DH (x0:Int) (x1:Int) (x2:Int):Option Bool:=
 some true
abbrev aEu (c:Cx) (R:ZZF) (r:Bool):Prop:=∀(g' h':AH),Sep c g' h' []→R (.bool r) h'
theorem aEv {w0 g h Q r x0 x1 x2}(M:DH x0 x1 x2=some r)(sg:Sub g h)(ok:h.Ok)  (H:aEu ⟨g,h,[]⟩ (fun v=>Q (.ret v)) r):WF PP w0 Sv [vi x0,vi x1,vi x2] h Q:=by
 refine aue _ _ _ ?_;have S:=Sep.start sg ok;unfold aiT;unfold DH at M;cases M;exact H _ _  S.bO
def agb (N:Nat) (v1:ae)  :Option ((List Bool)):=
(OX N v1 (fun a0 a1 a2=>DH a0 a1 a2)).bind fun jw=>
 some jw
def FX (N:Nat) (x0:ae):Option ((List Bool)):=
(Dc N x0).bind fun cv=>
 bif (!cv)then(
 some ([]:List Bool))else(
 agb N x0)
abbrev aqg (c:Cx) (R:ZZF) (r:(List Bool)):Prop:=∀(g' h':AH) (w1:Z),Sep c g' h' []→aa rB 1 g' w1 r→R w1 h'
theorem aEw {w0 c g h E R r N v1 av aA az}  (M:agb N v1=some r)(S:Sep c g h [.bx av (ZZA v1 aA az)])(aH:aa ah.rep 4 g aA v1.ab)(aG:aa al.rep 3 g az v1.aI)  (H:aqg c R r):aaP w0 E R (ak av 0) h:=by
 unfold aaP;unfold agb at M;refine S.eA (ZZA v1 aA az) 0 rfl rfl rfl (by decide) ?_;have afA:rz w0 g (fc Sv) (fun a0 a1 a2=>DH a0 a1 a2):=⟨rfl,fun a0 a1 a2 r E K g2 h2 s1 s2 s3  m1 k1=>aEv m1 s2 s3 k1⟩;obtain⟨jw,qB,M⟩:=bind_some M;refine aEr qB S.sub S.ok aH aG afA (fun g h w_7 S1 O4=>?_);have aH:=aa.mono aH ah.mono S1.bF;have aG:=aa.mono aG al.mono S1.bF;have S:=S.ou S1;cases M;exact H _ _ w_7 S.bO O4
theorem aog {w0 g h Q r N x0 cw cx}(M:FX N x0=some r)(sg:Sub g h)(ok:h.Ok)(cg:aa ah.rep 4 g cw x0.ab)(cz:aa al.rep 3 g cx x0.aI)(H:aqg ⟨g,h,[]⟩ (fun v=>Q (.ret v)) r):WF PP w0 Sw [(.agg ⟨(ZZA x0 cw cx)⟩)] h Q:=by
 refine auf _ ?_;have S:=Sep.start sg ok;unfold aiU;unfold FX at M;refine S.box (ZZA x0 cw cx) rfl (ag rfl (ag rfl (ag rfl (ag rfl (ag rfl (ag cg.one (ag cz.one rfl))))))) (fun jN h S=>?_);refine S.eA (ZZA x0 cw cx) 0 rfl rfl rfl (by decide) ?_;obtain⟨cv,nS,M⟩:=bind_some M;refine Vs nS S.sub S.ok cg cz (fun _ h  S1  =>?_);have S:=S.dz S1;refine dZ.2 (bR (fun hc=>?_) (fun hc=>?_))
 · have M:=aV hc M;cases M;exact H _ _ bJ S.bO aa.nil
 · have M:=aX hc M;exact aEw M S cg cz H
end
end Go.Ve.T
